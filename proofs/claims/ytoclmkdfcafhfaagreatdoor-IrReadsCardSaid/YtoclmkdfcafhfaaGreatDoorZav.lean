/- Package ir: the check of a node and its descendants, the document's side. -/
import Derived.Test.YtoclmkdfcafhfaaGreatDoorZat
import Derived.Test.YtoclmkdfcafhfaaGreatDoorZbk
set_option maxRecDepth 20000
set_option maxHeartbeats 2000000
namespace Go.Proofs.YtoclmkdfcafhfaaGreatDoor
open Go.RowKit Go.Vcg Ou
def aFq (N : Nat) : Prop := ∀ (ps : List (F × Value)) (A : Option Addr) (cc n : Nat) (fb gm gs : Nat) (t : T) (u : Value) (f : Nat) (p : Iq.PlP) (v1 v2 v3 : Value) (deep : Int) (c : Iq.CkS) (i : CIx) (w : World) (μ : Mem), MOk μ w → Go.Vcg.Own μ (ckR fb gm gs n (.slice A n cc) f c i) w → fY μ → UOk μ A n ps → f < n → KR μ t.kids u → gU qN t → t.size ≤ N → t.size ≤ 100000 → PlV μ p v1 v2 v3 → CkI μ c i → CkB n c → PlB p deep c → 1 ≤ deep → deep ≤ 2049 →
  Calls Tryz.prog 78 #[.pointer (some ⟨fb, 0, none⟩), .agg (aR t u).toArray, .agg #[v1, v2, v3, .bool p.inSc], .int .i64 deep] w fun e w' => ∃ v μ' i', e = .returned v ∧ fH (bS (ckR fb gm gs n (.slice A n cc) f c i)) w w' μ (ckR fb gm gs n (.slice A n cc) f (Iq.dI aH (bM ps) f t p deep c).1 i') μ' ∧ fW (Iq.dI aH (bM ps) f t p deep c).1 (Iq.dI aH (bM ps) f t p deep c).2 μ' v i'
attribute [local irreducible] Iq.dI Iq.gP Iq.cA Iq.eO aH G GC GQ GA bO Calls IntKind.wrap Int.decLt Int.decLe
theorem hZ {μ : Mem} {v : Value} {e s n : Nat} {ys : List Value} (h : Bk.sh (.inr ⟨v, e, s, n, ys⟩) μ) : Bk.sh (.inr ⟨v, e, s, n, ys⟩) μ := h
theorem vE (op : Int) (ks : List T) (u : Value) (b : Bool) (hb : Iq.fX (aH op).2 (ks.map T.op) = b) (hsg : (aH op).2.length ≤ 1000) (w : World) (μ : Mem) (hμ : MOk μ w) (hu : KR μ ks u) (hk : ks.length ≤ 100000) : Calls Tryz.prog 113 #[.string (ofB (aH op).2), u] w fun e w' => e = .returned (.bool b) ∧ Below w.heap.size w w' := by
  subst hb
  exact NZ (aH op).2 hsg ks u w μ hμ hu hk
theorem tL (t : T) (u : Value) (f : F) (v : Value) (hv : v.oneCell' = true) (k : Int) (b : Bool) (hb : aI t f.loc k = b) (hL : 0 ≤ f.loc ∧ f.loc ≤ 100000) (hk : 0 ≤ k ∧ k ≤ 100000) (w : World) (μ : Mem) (hμ : MOk μ w) (hu : KR μ t.kids u) (hkn : t.kids.length ≤ 100000) (hs : t.s.size ≤ 1000000) : Calls Tryz.prog 114 #[.agg (aR t u).toArray, .agg (dS f v).toArray, .int .i64 k] w fun e w' => e = .returned (.bool b) ∧ Below w.heap.size w w' := by
  subst hb
  exact ET t u f v hv k hL hk w μ hμ hu hkn hs
theorem NV : ∀ (N : Nat), aFq N := by
  intro N
  induction N with
  | zero => intro ps A cc n fb gm gs t u f p v1 v2 v3 deep c i w μ hμ hO hmq hU hf hk hall hN; exact absurd hN (by rw [T.size_eq]; omega)
  | succ N ih =>
    intro ps A cc n fb gm gs t u f p v1 v2 v3 deep c i w μ hμ hO hmq hU hf hk hall hN hsz hp hi hB hP hd1 hd2
    have hcnt := bE hO.diff
    have hpl : ps.length = n := hU.fs.1.1
    have hfl : (bM ps).length = n := by rw [List.length_map]; exact hpl
    have hn1 := hU.n1
    have ho := hk.one
    have hkl := sK t
    have hop := aDp hall
    have hs := aEo hall
    have hloc := FX hU
    have hmm := KA hmq
    obtain ⟨rf1, rf2, rf3⟩ := BW t.op
    have hrow : ∀ (w : World) (μc : Mem), MOk μc w → MLe μ μc → Calls Tryz.prog 26 #[.int .i64 t.op] w fun e w' => e = .returned (.string (ofB (EL t.op))) ∧ Below w.heap.size w w' := fun w μc hw hle => YL w μc hw (hmm.mono hle) t.op
    have hcut : ∀ (w : World) (μc : Mem), MOk μc w → Calls Tryz.prog 25 #[.string (ofB (EL t.op))] w fun e w' => e = .returned (.tuple #[.string (ofB (aH t.op).1), .string (ofB (aH t.op).2)]) ∧ Below w.heap.size w w' := fun w μc hw => by
      unfold EL
      by_cases h : (aH t.op).1 = []
      · rw [if_pos h, h, rf3 h]
        exact mR [] [] [] (by simp) (.inl ⟨rfl, rfl⟩) (by simp) w μc hw
      · rw [if_neg h]
        exact mR _ _ _ rf1 (.inr rfl) (by simp; omega) w μc hw
    obtain ⟨adU, y, rfl, hy, hmU⟩ := hU.fs.1.get hf
    have hyo := (hU.fs.2.2 y (List.mem_of_getElem? hy)).1.one
    have hyl := (hU.kd y (List.mem_of_getElem? hy)).2
    have hp0 := hp
    obtain ⟨⟨A1, c1, rfl, hS1⟩, ⟨A2, c2, rfl, hS2⟩, ⟨A3, c3, rfl, hS3⟩⟩ := hp
    have hsl1 := hP.sl hB hn1 (by omega)
    have hbl2 := hP.b1
    have hbl3 := hP.b2
    obtain ⟨A0, cK, rfl, hlc, cL⟩ := hk.form
    generalize hR : Iq.dI aH (bM ps) f t p deep c = R
    rw [JR] at hR
    refine aQ (args := [.pointer (some ⟨fb, 0, none⟩), .agg (aR t (.slice A0 t.kids.length cK)).toArray, .agg #[(Value.slice A1 p.slots.length c1), (Value.slice A2 p.breaks.length c2), (Value.slice A3 p.agains.length c3), .bool p.inSc], .int .i64 deep]) Tryz.func78 rfl Tryz.ntmps78 (by simp) hμ hO ?_
    repeat' (first | ((with_reducible show GC _ _ (Code.seq (Code.region 1 _ _) _) _ _ _ _); (apply aY)) | refine KK ?_ | refine NB fun b => ?_ | fail)
    rename_i bn
    obtain ⟨bp, hbp⟩ : ∃ x, x = b := ⟨_, rfl⟩
    rw [← hbp]
    clear hbp
    refine gcs (bY (l' := [(0, .pointer (some ⟨fb, 0, none⟩)), (3, .int .i64 deep), (5, .pointer (some ⟨bn, 0, none⟩)), (6, .pointer (some ⟨bp, 0, none⟩))]) (L' := ckR fb gm gs n (.slice (some adU) n cc) f c i ++ [.inl ⟨bn, 42, 6, idx 0 (aR t (.slice A0 t.kids.length cK))⟩, .inl ⟨bp, 119, 4, idx 0 [(Value.slice A1 p.slots.length c1), (Value.slice A2 p.breaks.length c2), (Value.slice A3 p.agains.length c3), .bool p.inSc]⟩]) PU PS ?_)
    dsimp only [List.cons_append, List.nil_append]
    repeat' (first | refine KO ?_ | ((with_reducible apply F1 26); exact rfl; exact EN; (exact fun w μc hw hse => hrow w μc hw hse.le)) | ((with_reducible apply F1 25); exact rfl; exact EN; (exact fun w μc hw hse => hcut w μc hw)) | refine KI ?_ | fail)
    have hlo := KH hy
    have hfd : aI t y.1.loc n = (Iq.cT t.op t.s.data.toList && (Iq.cG t.op t.m && (Iq.bB t.op t.n y.1.loc n && Iq.eW t.op t.m (t.kids.map T.op)))) := rfl
    have hsq : Iq.eO aH (bM ps) t f deep = (decide (deep ≤ 2048) && (!(aH t.op).1.isEmpty && (Iq.fX (aH t.op).2 (t.kids.map T.op) && aI t y.1.loc n))) := by rw [iS, hlo, hfl]
    by_cases h1 : deep ≤ 2048
    rotate_left
    · skip
      have hsh : Iq.eO aH (bM ps) t f deep = false := by rw [hsq]; simp [h1]
      rw [hsh, if_neg (by simp)] at hR
      subst hR
      refine bN 44 ([.inl ⟨fb, 89, 5, [(0, .slice (some adU) n cc), (1, .int .i64 (f : Int))]⟩, .inl ⟨bn, 42, 6, idx 0 (aR t (.slice A0 t.kids.length cK))⟩, .inl ⟨bp, 119, 4, idx 0 [(Value.slice A1 p.slots.length c1), (Value.slice A2 p.breaks.length c2), (Value.slice A3 p.agains.length c3), .bool p.inSc]⟩]) (by kernel_rfl) rfl PS ?_
      all_goals refine DD 0 ?_
      all_goals (first | refine D1 1 ?_ | fail)
      all_goals refine DD 2 ?_
      all_goals (try (refine D7 3 ?_; (repeat' (refine KO ?_))))
      all_goals (first | refine D1 3 ?_ | fail)
      all_goals (first | refine D1 4 ?_ | fail)
      all_goals (refine D3 5 (D6 ?_))
      all_goals (first | refine D1 6 ?_ | fail)
      all_goals refine DD 7 ?_
      all_goals refine DD 8 ?_
      all_goals (try (refine D7 9 ?_; (repeat' (first | fail))))
      all_goals refine DD 9 ?_
      all_goals (first | refine D1 10 ?_ | fail)
      all_goals (first | refine D1 11 ?_ | fail)
      all_goals (refine D3 12 (D6 ?_))
      all_goals refine DD 13 ?_
      all_goals refine DD 14 ?_
      all_goals refine DD 15 ?_
      all_goals (try (refine D7 16 ?_; (repeat' (first | fail))))
      all_goals (first | refine D1 16 ?_ | fail)
      all_goals refine DD 17 ?_
      all_goals refine DD 18 ?_
      all_goals (first | refine D1 19 ?_ | fail)
      all_goals (first | refine D1 20 ?_ | fail)
      all_goals (first | refine D1 21 ?_ | fail)
      all_goals refine DD 22 ?_
      all_goals refine DD 23 ?_
      all_goals (first | refine D1 24 ?_ | fail)
      all_goals (first | refine D1 25 ?_ | fail)
      all_goals (first | refine D1 26 ?_ | fail)
      all_goals (first | refine D1 27 ?_ | fail)
      all_goals refine DD 28 ?_
      all_goals refine DD 29 ?_
      all_goals (first | refine D1 30 ?_ | fail)
      all_goals (first | refine D1 31 ?_ | fail)
      all_goals (first | refine D1 32 ?_ | fail)
      all_goals (first | refine D1 33 ?_ | fail)
      all_goals (refine D3 34 (D6 ?_))
      all_goals refine DD 35 ?_
      all_goals refine DD 36 ?_
      all_goals refine DD 37 ?_
      all_goals (try (refine D7 38 ?_; (repeat' (first | fail))))
      all_goals refine DD 38 ?_
      all_goals (first | refine D1 39 ?_ | fail)
      all_goals (first | refine D1 40 ?_ | fail)
      all_goals (refine D3 41 (D6 ?_))
      all_goals refine DD 42 ?_
      all_goals refine DD 43 ?_
      all_goals refine D8 ?_
      all_goals repeat' (first | refine KK ?_ | fail)
      all_goals (refine aM (l' := [(8, .bool false)]) (L' := ckR fb gm gs n (.slice (some adU) n cc) f c i) PU PS ?_; exact bZ hcnt rfl (aB rfl) i rfl rfl hi)
    by_cases h2 : (aH t.op).1 = []
    · have h2n : ofB (EL t.op) = ⟨#[]⟩ := by unfold EL; rw [if_pos h2]; rfl
      have hsh : Iq.eO aH (bM ps) t f deep = false := by rw [hsq]; simp [h2]
      rw [hsh, if_neg (by simp)] at hR
      subst hR
      refine bN 44 ([.inl ⟨fb, 89, 5, [(0, .slice (some adU) n cc), (1, .int .i64 (f : Int))]⟩, .inl ⟨bn, 42, 6, idx 0 (aR t (.slice A0 t.kids.length cK))⟩, .inl ⟨bp, 119, 4, idx 0 [(Value.slice A1 p.slots.length c1), (Value.slice A2 p.breaks.length c2), (Value.slice A3 p.agains.length c3), .bool p.inSc]⟩]) (by kernel_rfl) rfl PS ?_
      all_goals refine DD 0 ?_
      all_goals (first | refine D1 1 ?_ | fail)
      all_goals refine DD 2 ?_
      all_goals (try (refine D7 3 ?_; (repeat' (refine KO ?_))))
      all_goals (first | refine D1 3 ?_ | fail)
      all_goals (first | refine DD 4 ?_ | fail)
      all_goals ((refine D3 5 ?_; refine D5 ?_; (first | ((with_reducible apply F1 26); exact rfl; exact EN; (exact fun w μc hw hse => hrow w μc hw hse.le)) | fail); refine D9S ?_))
      all_goals (first | refine D1 6 ?_ | fail)
      all_goals refine DD 7 ?_
      all_goals refine DD 8 ?_
      all_goals (try (refine D7 9 ?_; (repeat' (refine KO ?_))))
      all_goals refine DD 9 ?_
      all_goals (first | refine D1 10 ?_ | fail)
      all_goals (first | refine D1 11 ?_ | fail)
      all_goals (refine D3 12 (D6 ?_))
      all_goals refine DD 13 ?_
      all_goals refine DD 14 ?_
      all_goals refine DD 15 ?_
      all_goals (try (refine D7 16 ?_; (repeat' (first | fail))))
      all_goals (first | refine D1 16 ?_ | fail)
      all_goals refine DD 17 ?_
      all_goals refine DD 18 ?_
      all_goals (first | refine D1 19 ?_ | fail)
      all_goals (first | refine D1 20 ?_ | fail)
      all_goals (first | refine D1 21 ?_ | fail)
      all_goals refine DD 22 ?_
      all_goals refine DD 23 ?_
      all_goals (first | refine D1 24 ?_ | fail)
      all_goals (first | refine D1 25 ?_ | fail)
      all_goals (first | refine D1 26 ?_ | fail)
      all_goals (first | refine D1 27 ?_ | fail)
      all_goals refine DD 28 ?_
      all_goals refine DD 29 ?_
      all_goals (first | refine D1 30 ?_ | fail)
      all_goals (first | refine D1 31 ?_ | fail)
      all_goals (first | refine D1 32 ?_ | fail)
      all_goals (first | refine D1 33 ?_ | fail)
      all_goals (refine D3 34 (D6 ?_))
      all_goals refine DD 35 ?_
      all_goals refine DD 36 ?_
      all_goals refine DD 37 ?_
      all_goals (try (refine D7 38 ?_; (repeat' (first | fail))))
      all_goals refine DD 38 ?_
      all_goals (first | refine D1 39 ?_ | fail)
      all_goals (first | refine D1 40 ?_ | fail)
      all_goals (refine D3 41 (D6 ?_))
      all_goals refine DD 42 ?_
      all_goals refine DD 43 ?_
      all_goals refine D8 ?_
      all_goals repeat' (first | refine KK ?_ | fail)
      all_goals (refine aM (l' := [(8, .bool false)]) (L' := ckR fb gm gs n (.slice (some adU) n cc) f c i) PU PS ?_; exact bZ hcnt rfl (aB rfl) i rfl rfl hi)
    have h2n : ¬ ofB (EL t.op) = ⟨#[]⟩ := fun h => by have := congrArg bl h; rw [gS] at this; unfold EL at this; rw [if_neg h2] at this; exact absurd (congrArg List.length this) (by simp [bl])
    cases h3 : Iq.fX (aH t.op).2 (t.kids.map T.op)
    · skip
      have hsh : Iq.eO aH (bM ps) t f deep = false := by rw [hsq]; simp [h3]
      rw [hsh, if_neg (by simp)] at hR
      subst hR
      refine bN 44 ([.inl ⟨fb, 89, 5, [(0, .slice (some adU) n cc), (1, .int .i64 (f : Int))]⟩, .inl ⟨bn, 42, 6, idx 0 (aR t (.slice A0 t.kids.length cK))⟩, .inl ⟨bp, 119, 4, idx 0 [(Value.slice A1 p.slots.length c1), (Value.slice A2 p.breaks.length c2), (Value.slice A3 p.agains.length c3), .bool p.inSc]⟩]) (by kernel_rfl) rfl PS ?_
      all_goals refine DD 0 ?_
      all_goals (first | refine D1 1 ?_ | fail)
      all_goals refine DD 2 ?_
      all_goals (try (refine D7 3 ?_; (repeat' (refine KO ?_))))
      all_goals (first | refine D1 3 ?_ | fail)
      all_goals (first | refine DD 4 ?_ | fail)
      all_goals ((refine D3 5 ?_; refine D5 ?_; (first | ((with_reducible apply F1 26); exact rfl; exact EN; (exact fun w μc hw hse => hrow w μc hw hse.le)) | fail); refine D9S ?_))
      all_goals (first | refine D1 6 ?_ | fail)
      all_goals refine DD 7 ?_
      all_goals refine DD 8 ?_
      all_goals (try (refine D7 9 ?_; (repeat' (refine KO ?_))))
      all_goals refine DD 9 ?_
      all_goals (first | refine D1 10 ?_ | fail)
      all_goals (first | refine DD 11 ?_ | fail)
      all_goals ((refine D3 12 ?_; refine D5 ?_; (first | ((with_reducible apply F1 113); exact rfl; exact EN; (exact fun w μc hw hse => vE t.op t.kids _ _ h3 (by omega) w μc hw (hk.mono hse.le) (by omega))) | fail); refine D9S ?_))
      all_goals refine DD 13 ?_
      all_goals refine DD 14 ?_
      all_goals refine DD 15 ?_
      all_goals (try (refine D7 16 ?_; (repeat' (refine KO ?_))))
      all_goals (first | refine D1 16 ?_ | fail)
      all_goals refine DD 17 ?_
      all_goals refine DD 18 ?_
      all_goals (first | refine D1 19 ?_ | fail)
      all_goals (first | refine D1 20 ?_ | fail)
      all_goals (first | refine D1 21 ?_ | fail)
      all_goals refine DD 22 ?_
      all_goals refine DD 23 ?_
      all_goals (first | refine D1 24 ?_ | fail)
      all_goals (first | refine D1 25 ?_ | fail)
      all_goals (first | refine D1 26 ?_ | fail)
      all_goals (first | refine D1 27 ?_ | fail)
      all_goals refine DD 28 ?_
      all_goals refine DD 29 ?_
      all_goals (first | refine D1 30 ?_ | fail)
      all_goals (first | refine D1 31 ?_ | fail)
      all_goals (first | refine D1 32 ?_ | fail)
      all_goals (first | refine D1 33 ?_ | fail)
      all_goals (refine D3 34 (D6 ?_))
      all_goals refine DD 35 ?_
      all_goals refine DD 36 ?_
      all_goals refine DD 37 ?_
      all_goals (try (refine D7 38 ?_; (repeat' (first | fail))))
      all_goals refine DD 38 ?_
      all_goals (first | refine D1 39 ?_ | fail)
      all_goals (first | refine D1 40 ?_ | fail)
      all_goals (refine D3 41 (D6 ?_))
      all_goals refine DD 42 ?_
      all_goals refine DD 43 ?_
      all_goals refine D8 ?_
      all_goals repeat' (first | refine KK ?_ | fail)
      all_goals (refine aM (l' := [(8, .bool false)]) (L' := ckR fb gm gs n (.slice (some adU) n cc) f c i) PU PS ?_; exact bZ hcnt rfl (aB rfl) i rfl rfl hi)
    cases h4 : aI t y.1.loc n
    · skip
      have hsh : Iq.eO aH (bM ps) t f deep = false := by rw [hsq]; simp [h4]
      rw [hsh, if_neg (by simp)] at hR
      subst hR
      refine bN 44 ([.inl ⟨fb, 89, 5, [(0, .slice (some adU) n cc), (1, .int .i64 (f : Int))]⟩, .inl ⟨bn, 42, 6, idx 0 (aR t (.slice A0 t.kids.length cK))⟩, .inl ⟨bp, 119, 4, idx 0 [(Value.slice A1 p.slots.length c1), (Value.slice A2 p.breaks.length c2), (Value.slice A3 p.agains.length c3), .bool p.inSc]⟩]) (by kernel_rfl) rfl PS ?_
      all_goals refine DD 0 ?_
      all_goals (first | refine D1 1 ?_ | fail)
      all_goals refine DD 2 ?_
      all_goals (try (refine D7 3 ?_; (repeat' (refine KO ?_))))
      all_goals (first | refine D1 3 ?_ | fail)
      all_goals (first | refine DD 4 ?_ | fail)
      all_goals ((refine D3 5 ?_; refine D5 ?_; (first | ((with_reducible apply F1 26); exact rfl; exact EN; (exact fun w μc hw hse => hrow w μc hw hse.le)) | fail); refine D9S ?_))
      all_goals (first | refine D1 6 ?_ | fail)
      all_goals refine DD 7 ?_
      all_goals refine DD 8 ?_
      all_goals (try (refine D7 9 ?_; (repeat' (refine KO ?_))))
      all_goals refine DD 9 ?_
      all_goals (first | refine D1 10 ?_ | fail)
      all_goals (first | refine DD 11 ?_ | fail)
      all_goals ((refine D3 12 ?_; refine D5 ?_; (first | ((with_reducible apply F1 113); exact rfl; exact EN; (exact fun w μc hw hse => vE t.op t.kids _ _ h3 (by omega) w μc hw (hk.mono hse.le) (by omega))) | fail); refine D9S ?_))
      all_goals refine DD 13 ?_
      all_goals refine DD 14 ?_
      all_goals refine DD 15 ?_
      all_goals (try (refine D7 16 ?_; (repeat' (refine KO ?_))))
      all_goals (first | refine DD 16 ?_ | fail)
      all_goals refine DD 17 ?_
      all_goals refine DD 18 ?_
      all_goals (first | refine D1 19 ?_ | fail)
      all_goals (first | refine D1 20 ?_ | fail)
      all_goals (first | refine DD 21 ?_ | fail)
      all_goals refine DD 22 ?_
      all_goals refine DD 23 ?_
      all_goals (first | refine D1 24 ?_ | fail)
      all_goals (first | refine DD 25 ?_ | fail)
      all_goals (first | (refine DV (k := 26) (b := by exact U1 f) (c := ?_)) | fail)
      all_goals (first | (refine DV (k := 27) (b := by exact U4 hmU) (c := ?_)) | fail)
      all_goals refine DD 28 ?_
      all_goals refine DD 29 ?_
      all_goals (first | refine D1 30 ?_ | fail)
      all_goals (first | refine D1 31 ?_ | fail)
      all_goals (first | refine DD 32 ?_ | fail)
      all_goals (first | refine D1 33 ?_ | fail)
      all_goals ((refine D3 34 ?_; refine D5 ?_; (first | ((with_reducible apply F1 114); exact rfl; exact EN; (exact fun w μc hw hse => tL t _ y.1 y.2 hyo n _ h4 (by omega) (by omega) w μc hw (hk.mono hse.le) (by omega) (by omega))) | fail); refine D9S ?_))
      all_goals refine DD 35 ?_
      all_goals refine DD 36 ?_
      all_goals refine DD 37 ?_
      all_goals (try (refine D7 38 ?_; (repeat' (refine KO ?_))))
      all_goals refine DD 38 ?_
      all_goals (first | refine D1 39 ?_ | fail)
      all_goals (first | refine D1 40 ?_ | fail)
      all_goals (refine D3 41 (D6 ?_))
      all_goals refine DD 42 ?_
      all_goals refine DD 43 ?_
      all_goals refine D8 ?_
      all_goals repeat' (first | refine KK ?_ | fail)
      all_goals (refine aM (l' := [(8, .bool false)]) (L' := ckR fb gm gs n (.slice (some adU) n cc) f c i) PU PS ?_; exact bZ hcnt rfl (aB rfl) i rfl rfl hi)
    have h45 := hfd
    rw [h4] at h45
    have h5 : Iq.cG t.op t.m = true := by
      have := h45.symm
      simp only [Bool.and_eq_true] at this
      exact this.2.1
    have h6 : Iq.bB t.op t.n y.1.loc n = true := by
      have := h45.symm
      simp only [Bool.and_eq_true] at this
      exact this.2.2.1
    have hsh : Iq.eO aH (bM ps) t f deep = true := by rw [hsq]; simp [h1, h2, h3, h4]
    rw [hsh, if_pos rfl] at hR
    have hn' : Iq.bB t.op t.n (Iq.fN (bM ps) f) (bM ps).length = true := by rw [hlo, hfl]; exact h6
    have hst := fun (w2 : World) (hw2 : MOk μ w2) (hO2 : Go.Vcg.Own μ (ckR fb gm gs n (.slice (some adU) n cc) f c i) w2) => EK ps (some adU) cc n f t (.slice A0 t.kids.length cK) p _ _ _ deep c i fb gm gs w2 μ hw2 hO2 hU hf ho hp0 hi hB hP (by omega) hn'
    have hcb := zN hfl hB hP h1 hn'
    obtain ⟨S, hS⟩ : ∃ S, S = Iq.cA (bM ps) f t.op t.n t.m p c := ⟨_, rfl⟩
    rw [← hS] at hst hR hcb
    obtain ⟨s1, b1⟩ := S
    clear hS
    dsimp only at hst hR hcb
    obtain ⟨hB1, hcm1⟩ := hcb
    cases b1
    · rw [if_neg (by simp)] at hR
      subst hR
      refine bN 44 ([.inl ⟨fb, 89, 5, [(0, .slice (some adU) n cc), (1, .int .i64 (f : Int))]⟩, .inl ⟨bn, 42, 6, idx 0 (aR t (.slice A0 t.kids.length cK))⟩, .inl ⟨bp, 119, 4, idx 0 [(Value.slice A1 p.slots.length c1), (Value.slice A2 p.breaks.length c2), (Value.slice A3 p.agains.length c3), .bool p.inSc]⟩]) (by kernel_rfl) rfl PS ?_
      all_goals refine DD 0 ?_
      all_goals (first | refine D1 1 ?_ | fail)
      all_goals refine DD 2 ?_
      all_goals (try (refine D7 3 ?_; (repeat' (refine KO ?_))))
      all_goals (first | refine D1 3 ?_ | fail)
      all_goals (first | refine DD 4 ?_ | fail)
      all_goals ((refine D3 5 ?_; refine D5 ?_; (((with_reducible apply F1 26); exact rfl; exact EN; (exact fun w μc hw hse => hrow w μc hw hse.le))); refine D9S ?_))
      all_goals (first | refine D1 6 ?_ | fail)
      all_goals refine DD 7 ?_
      all_goals refine DD 8 ?_
      all_goals (try (refine D7 9 ?_; (repeat' (refine KO ?_))))
      all_goals refine DD 9 ?_
      all_goals (first | refine D1 10 ?_ | fail)
      all_goals (first | refine DD 11 ?_ | fail)
      all_goals ((refine D3 12 ?_; refine D5 ?_; (((with_reducible apply F1 113); exact rfl; exact EN; (exact fun w μc hw hse => vE t.op t.kids _ _ h3 (by omega) w μc hw (hk.mono hse.le) (by omega)))); refine D9S ?_))
      all_goals refine DD 13 ?_
      all_goals refine DD 14 ?_
      all_goals refine DD 15 ?_
      all_goals (try (refine D7 16 ?_; (repeat' (refine KO ?_))))
      all_goals (first | refine DD 16 ?_ | fail)
      all_goals refine DD 17 ?_
      all_goals refine DD 18 ?_
      all_goals (first | refine D1 19 ?_ | fail)
      all_goals (first | refine D1 20 ?_ | fail)
      all_goals (first | refine DD 21 ?_ | fail)
      all_goals refine DD 22 ?_
      all_goals refine DD 23 ?_
      all_goals (first | refine D1 24 ?_ | fail)
      all_goals (first | refine DD 25 ?_ | fail)
      all_goals (first | (refine DV (k := 26) (b := by exact U1 f) (c := ?_)) | fail)
      all_goals (first | (refine DV (k := 27) (b := by exact U4 hmU) (c := ?_)) | fail)
      all_goals refine DD 28 ?_
      all_goals refine DD 29 ?_
      all_goals (first | refine D1 30 ?_ | fail)
      all_goals (first | refine D1 31 ?_ | fail)
      all_goals (first | refine DD 32 ?_ | fail)
      all_goals (first | refine D1 33 ?_ | fail)
      all_goals ((refine D3 34 ?_; refine D5 ?_; (((with_reducible apply F1 114); exact rfl; exact EN; (exact fun w μc hw hse => tL t _ y.1 y.2 hyo n _ h4 (by omega) (by omega) w μc hw (hk.mono hse.le) (by omega) (by omega)))); refine D9S ?_))
      all_goals refine DD 35 ?_
      all_goals refine DD 36 ?_
      all_goals refine DD 37 ?_
      all_goals (try (refine D7 38 ?_; (repeat' (refine KO ?_))))
      all_goals refine DD 38 ?_
      all_goals (first | refine DD 39 ?_ | fail)
      all_goals (first | refine DD 40 ?_ | fail)
      all_goals ((refine D3 41 ?_; refine D5 ?_; ((refine CF 115 ?_; (with_reducible apply aA (Ls := fun i2 => ckR fb gm gs n (.slice (some adU) n cc) f s1 i2) (Post := fW s1 false) 4); (iterate 3 exact rfl); ((with_reducible apply nW); kernel_rfl; (iterate 3 exact rfl)); exact rfl; (exact hst); (rintro v5 μ1 i1 hle1 ⟨rfl, hi1⟩); (dsimp only [List.cons_append, List.nil_append]))); refine D9S ?_))
      all_goals refine DD 42 ?_
      all_goals refine DD 43 ?_
      all_goals refine D8 ?_
      all_goals repeat' (first | refine KK ?_ | fail)
      all_goals (refine aM (l' := [(8, .bool false)]) (L' := ckR fb gm gs n (.slice (some adU) n cc) f s1 i1) PU PS ?_; exact bZ hcnt rfl (aB rfl) i1 rfl rfl hi1)
    rw [if_pos rfl] at hR
    refine bN 44 ([.inl ⟨fb, 89, 5, [(0, .slice (some adU) n cc), (1, .int .i64 (f : Int))]⟩, .inl ⟨bn, 42, 6, idx 0 (aR t (.slice A0 t.kids.length cK))⟩, .inl ⟨bp, 119, 4, idx 0 [(Value.slice A1 p.slots.length c1), (Value.slice A2 p.breaks.length c2), (Value.slice A3 p.agains.length c3), .bool p.inSc]⟩]) (by kernel_rfl) rfl PS ?_
    all_goals refine DD 0 ?_
    all_goals (first | refine D1 1 ?_ | fail)
    all_goals refine DD 2 ?_
    all_goals (try (refine D7 3 ?_; (repeat' (refine KO ?_))))
    all_goals (first | refine D1 3 ?_ | fail)
    all_goals (first | refine DD 4 ?_ | fail)
    all_goals ((refine D3 5 ?_; refine D5 ?_; (((with_reducible apply F1 26); exact rfl; exact EN; (exact fun w μc hw hse => hrow w μc hw hse.le))); refine D9S ?_))
    all_goals (first | refine D1 6 ?_ | fail)
    all_goals refine DD 7 ?_
    all_goals refine DD 8 ?_
    all_goals (try (refine D7 9 ?_; (repeat' (refine KO ?_))))
    all_goals refine DD 9 ?_
    all_goals (first | refine D1 10 ?_ | fail)
    all_goals (first | refine DD 11 ?_ | fail)
    all_goals ((refine D3 12 ?_; refine D5 ?_; (((with_reducible apply F1 113); exact rfl; exact EN; (exact fun w μc hw hse => vE t.op t.kids _ _ h3 (by omega) w μc hw (hk.mono hse.le) (by omega)))); refine D9S ?_))
    all_goals refine DD 13 ?_
    all_goals refine DD 14 ?_
    all_goals refine DD 15 ?_
    all_goals (try (refine D7 16 ?_; (repeat' (refine KO ?_))))
    all_goals (first | refine DD 16 ?_ | fail)
    all_goals refine DD 17 ?_
    all_goals refine DD 18 ?_
    all_goals (first | refine D1 19 ?_ | fail)
    all_goals (first | refine D1 20 ?_ | fail)
    all_goals (first | refine DD 21 ?_ | fail)
    all_goals refine DD 22 ?_
    all_goals refine DD 23 ?_
    all_goals (first | refine D1 24 ?_ | fail)
    all_goals (first | refine DD 25 ?_ | fail)
    all_goals (first | (refine DV (k := 26) (b := by exact U1 f) (c := ?_)) | fail)
    all_goals (first | (refine DV (k := 27) (b := by exact U4 hmU) (c := ?_)) | fail)
    all_goals refine DD 28 ?_
    all_goals refine DD 29 ?_
    all_goals (first | refine D1 30 ?_ | fail)
    all_goals (first | refine D1 31 ?_ | fail)
    all_goals (first | refine DD 32 ?_ | fail)
    all_goals (first | refine D1 33 ?_ | fail)
    all_goals ((refine D3 34 ?_; refine D5 ?_; (((with_reducible apply F1 114); exact rfl; exact EN; (exact fun w μc hw hse => tL t _ y.1 y.2 hyo n _ h4 (by omega) (by omega) w μc hw (hk.mono hse.le) (by omega) (by omega)))); refine D9S ?_))
    all_goals refine DD 35 ?_
    all_goals refine DD 36 ?_
    all_goals refine DD 37 ?_
    all_goals (try (refine D7 38 ?_; (repeat' (refine KO ?_))))
    all_goals refine DD 38 ?_
    all_goals (first | refine DD 39 ?_ | fail)
    all_goals (first | refine DD 40 ?_ | fail)
    all_goals ((refine D3 41 ?_; refine D5 ?_; ((refine CF 115 ?_; (with_reducible apply aA (Ls := fun i2 => ckR fb gm gs n (.slice (some adU) n cc) f s1 i2) (Post := fW s1 true) 4); (iterate 3 exact rfl); ((with_reducible apply nW); kernel_rfl; (iterate 3 exact rfl)); exact rfl; (exact hst); (rintro v5 μ1 i1 hle1 ⟨rfl, hi1⟩); (dsimp only [List.cons_append, List.nil_append]))); refine D9S ?_))
    all_goals refine DD 42 ?_
    all_goals refine DD 43 ?_
    all_goals refine D8 ?_
    all_goals repeat' (first | ((with_reducible show GC _ _ (Code.seq (Code.seq (Code.region 4 _ _) _) _) _ _ _ _); (apply aY)) | refine KK ?_ | fail)
    all_goals refine gcs (bY (l' := [(0, .pointer (some ⟨fb, 0, none⟩)), (3, .int .i64 deep), (5, .pointer (some ⟨bn, 0, none⟩)), (6, .pointer (some ⟨bp, 0, none⟩))]) (L' := ckR fb gm gs n (.slice (some adU) n cc) f s1 i1 ++ [.inl ⟨bn, 42, 6, idx 0 (aR t (.slice A0 t.kids.length cK))⟩, .inl ⟨bp, 119, 4, idx 0 [(Value.slice A1 p.slots.length c1), (Value.slice A2 p.breaks.length c2), (Value.slice A3 p.agains.length c3), .bool p.inSc]⟩]) PU PS ?_)
    all_goals dsimp only [List.cons_append, List.nil_append]
    have hS2m := hS2.mono hle1
    refine cM (ι := Mem × Value) (fun y => MLe μ1 y.1 ∧ bK y.1 y.2 (if t.op = 164 then p.breaks ++ [t.n] else p.breaks)) (fun y => y.1) (fun _ => [(0, .pointer (some ⟨fb, 0, none⟩)), (3, .int .i64 deep), (5, .pointer (some ⟨bn, 0, none⟩)), (6, .pointer (some ⟨bp, 0, none⟩))]) (fun y => ckR fb gm gs n (.slice (some adU) n cc) f s1 i1 ++ [.inl ⟨bn, 42, 6, idx 0 (aR t (.slice A0 t.kids.length cK))⟩, .inl ⟨bp, 119, 4, idx 0 [(Value.slice A1 p.slots.length c1), y.2, (Value.slice A3 p.agains.length c3), .bool p.inSc]⟩]) ?_ ?_
    · by_cases hq1 : t.op = 164
      · rw [if_pos hq1]
        repeat' (first | refine KK ?_ | fail)
        all_goals try (exfalso; omega)
        have e1 := eG p.breaks
        have e2 := gO p.breaks
        refine bN 10 ([.inl ⟨bn, 42, 6, idx 0 (aR t (.slice A0 t.kids.length cK))⟩]) (by kernel_rfl) rfl PS ?_
        all_goals refine DD 1 ?_
        all_goals refine DD 4 ?_
        all_goals refine DD 5 ?_
        refine aCy 0 2 6 (by kernel_rfl) ?dr11_0 ?dr11_2 ?dr11_6
        case' dr11_0 =>
          ((refine D5 ?_; refine NB fun b => ?_; (with_reducible apply mG 1); refine D9S ?_))
          refine bT 2 6 (by kernel_rfl) ?dr12_2 ?dr12_6
          case' dr12_2 =>
            (((with_reducible apply bJ); (iterate 4 exact rfl); (((with_reducible apply iQ); exact rfl; (repeat first | with_reducible exact bG | with_reducible apply dJ); exact rfl))))
            refine bT 3 6 (by kernel_rfl) ?dr13_3 ?dr13_6
            case' dr13_3 =>
              ((refine D5 ?_; ((refine AX (S := fZ rfl hS2m (by simp)) (A := by omega) (O := by exact e2) (k := fun v => ?_))); refine D9S ?_))
              all_goals ((refine D3 6 ?_; refine D5 ?_; refine NB fun b => ?_; refine D9S ?_))
              all_goals ((refine D3 7 ?_; refine D5 ?_; (refine AI (k := fun g cap hcap => ?_)); refine D9S ?_))
              all_goals refine DD 8 ?_
              all_goals ((refine D3 9 ?_; refine D5 ?_; refine Y0 ?_; refine D9S ?_))
              all_goals refine D8 ?_
            case' dr13_6 =>
              ((refine D5 ?_; refine NB fun b => ?_; refine D9S ?_))
              all_goals ((refine D3 3 ?_; refine D5 ?_; ((refine AX (S := fZ rfl hS2m (by simp)) (A := by omega) (O := by exact e2) (k := fun v => ?_))); refine D9S ?_))
              all_goals ((refine D3 7 ?_; refine D5 ?_; (refine AI (k := fun g cap hcap => ?_)); refine D9S ?_))
              all_goals refine DD 8 ?_
              all_goals ((refine D3 9 ?_; refine D5 ?_; refine Y0 ?_; refine D9S ?_))
              all_goals refine D8 ?_
          case' dr12_6 =>
            ((refine D5 ?_; refine NB fun b => ?_; refine D9S ?_))
            all_goals ((refine D3 2 ?_; (with_reducible apply bJ); (iterate 4 exact rfl); (((with_reducible apply iQ); exact rfl; (repeat first | with_reducible exact bG | with_reducible apply dJ); exact rfl))))
            all_goals ((refine D3 3 ?_; refine D5 ?_; ((refine AX (S := fZ rfl hS2m (by simp)) (A := by omega) (O := by exact e2) (k := fun v => ?_))); refine D9S ?_))
            all_goals ((refine D3 7 ?_; refine D5 ?_; (refine AI (k := fun g cap hcap => ?_)); refine D9S ?_))
            all_goals refine DD 8 ?_
            all_goals ((refine D3 9 ?_; refine D5 ?_; refine Y0 ?_; refine D9S ?_))
            all_goals refine D8 ?_
        case' dr11_2 =>
          (((with_reducible apply bJ); (iterate 4 exact rfl); (((with_reducible apply iQ); exact rfl; (repeat first | with_reducible exact bG | with_reducible apply dJ); exact rfl))))
          refine bT 0 6 (by kernel_rfl) ?dr14_0 ?dr14_6
          case' dr14_0 =>
            ((refine D5 ?_; refine NB fun b => ?_; (with_reducible apply mG 1); refine D9S ?_))
            refine bT 3 6 (by kernel_rfl) ?dr15_3 ?dr15_6
            case' dr15_3 =>
              ((refine D5 ?_; ((refine AX (S := fZ rfl hS2m (by simp)) (A := by omega) (O := by exact e2) (k := fun v => ?_))); refine D9S ?_))
              all_goals ((refine D3 6 ?_; refine D5 ?_; refine NB fun b => ?_; refine D9S ?_))
              all_goals ((refine D3 7 ?_; refine D5 ?_; (refine AI (k := fun g cap hcap => ?_)); refine D9S ?_))
              all_goals refine DD 8 ?_
              all_goals ((refine D3 9 ?_; refine D5 ?_; refine Y0 ?_; refine D9S ?_))
              all_goals refine D8 ?_
            case' dr15_6 =>
              ((refine D5 ?_; refine NB fun b => ?_; refine D9S ?_))
              all_goals ((refine D3 3 ?_; refine D5 ?_; ((refine AX (S := fZ rfl hS2m (by simp)) (A := by omega) (O := by exact e2) (k := fun v => ?_))); refine D9S ?_))
              all_goals ((refine D3 7 ?_; refine D5 ?_; (refine AI (k := fun g cap hcap => ?_)); refine D9S ?_))
              all_goals refine DD 8 ?_
              all_goals ((refine D3 9 ?_; refine D5 ?_; refine Y0 ?_; refine D9S ?_))
              all_goals refine D8 ?_
          case' dr14_6 =>
            ((refine D5 ?_; refine NB fun b => ?_; refine D9S ?_))
            all_goals ((refine D3 0 ?_; refine D5 ?_; refine NB fun b => ?_; (with_reducible apply mG 1); refine D9S ?_))
            all_goals ((refine D3 3 ?_; refine D5 ?_; ((refine AX (S := fZ rfl hS2m (by simp)) (A := by omega) (O := by exact e2) (k := fun v => ?_))); refine D9S ?_))
            all_goals ((refine D3 7 ?_; refine D5 ?_; (refine AI (k := fun g cap hcap => ?_)); refine D9S ?_))
            all_goals refine DD 8 ?_
            all_goals ((refine D3 9 ?_; refine D5 ?_; refine Y0 ?_; refine D9S ?_))
            all_goals refine D8 ?_
        case' dr11_6 =>
          ((refine D5 ?_; refine NB fun b => ?_; refine D9S ?_))
          refine bT 0 2 (by kernel_rfl) ?dr16_0 ?dr16_2
          case' dr16_0 =>
            ((refine D5 ?_; refine NB fun b => ?_; (with_reducible apply mG 1); refine D9S ?_))
            all_goals ((refine D3 2 ?_; (with_reducible apply bJ); (iterate 4 exact rfl); (((with_reducible apply iQ); exact rfl; (repeat first | with_reducible exact bG | with_reducible apply dJ); exact rfl))))
            all_goals ((refine D3 3 ?_; refine D5 ?_; ((refine AX (S := fZ rfl hS2m (by simp)) (A := by omega) (O := by exact e2) (k := fun v => ?_))); refine D9S ?_))
            all_goals ((refine D3 7 ?_; refine D5 ?_; (refine AI (k := fun g cap hcap => ?_)); refine D9S ?_))
            all_goals refine DD 8 ?_
            all_goals ((refine D3 9 ?_; refine D5 ?_; refine Y0 ?_; refine D9S ?_))
            all_goals refine D8 ?_
          case' dr16_2 =>
            (((with_reducible apply bJ); (iterate 4 exact rfl); (((with_reducible apply iQ); exact rfl; (repeat first | with_reducible exact bG | with_reducible apply dJ); exact rfl))))
            all_goals ((refine D3 0 ?_; refine D5 ?_; refine NB fun b => ?_; (with_reducible apply mG 1); refine D9S ?_))
            all_goals ((refine D3 3 ?_; refine D5 ?_; ((refine AX (S := fZ rfl hS2m (by simp)) (A := by omega) (O := by exact e2) (k := fun v => ?_))); refine D9S ?_))
            all_goals ((refine D3 7 ?_; refine D5 ?_; (refine AI (k := fun g cap hcap => ?_)); refine D9S ?_))
            all_goals refine DD 8 ?_
            all_goals ((refine D3 9 ?_; refine D5 ?_; refine Y0 ?_; refine D9S ?_))
            all_goals refine D8 ?_
        all_goals repeat' (first | fail)
        all_goals first
          | (refine gF rfl ?_; intro μ4 hle4 hsh4; have hsh5 := hZ hsh4; exact J1 (μ4, _) ⟨hle4, bK.eD hsh4 (by simp) (by rw [List.flatMap_append]; rfl)⟩)
          | (refine gE rfl ?_; intro μ4 hle4 hsh4; have hsh5 := hZ hsh4; exact J1 (μ4, _) ⟨hle4, bK.eD hsh4 (by simp) (by rw [List.flatMap_append]; rfl)⟩)
          | (refine gq_share_2 rfl ?_; intro μ4 hle4 hsh4; have hsh5 := hZ hsh4; exact J1 (μ4, _) ⟨hle4, bK.eD hsh4 (by simp) (by rw [List.flatMap_append]; rfl)⟩)
      · rw [if_neg hq1]
        repeat' (first | refine KK ?_ | fail)
        all_goals try (exfalso; omega)
        all_goals exact J1 (μ1, (Value.slice A2 p.breaks.length c2)) ⟨MLe.refl _, hp0.2.1.mono hle1⟩
    rintro ⟨μx, wx⟩ ⟨hlex, hpx⟩
    dsimp only [List.cons_append, List.nil_append] at hlex hpx ⊢
    have owx := hpx.one
    have hle1x := hle1.trans hlex
    refine cM (ι := Mem × Value × Value) (fun y => MLe μ1 y.1 ∧ PlV y.1 (Iq.inside t.op t.n p) y.2.1 y.2.2 (Value.slice A3 p.agains.length c3)) (fun y => y.1) (fun _ => [(0, .pointer (some ⟨fb, 0, none⟩)), (3, .int .i64 deep), (5, .pointer (some ⟨bn, 0, none⟩)), (6, .pointer (some ⟨bp, 0, none⟩))]) (fun y => ckR fb gm gs n (.slice (some adU) n cc) f s1 i1 ++ [.inl ⟨bn, 42, 6, idx 0 (aR t (.slice A0 t.kids.length cK))⟩, .inl ⟨bp, 119, 4, idx 0 [y.2.1, y.2.2, (Value.slice A3 p.agains.length c3), .bool (Iq.inside t.op t.n p).inSc]⟩]) ?_ ?_
    · by_cases hq2 : t.op = 170
      · have hin : Iq.inside t.op t.n p = { p with slots := t.n :: p.slots, inSc := true } := by unfold Iq.inside; rw [if_neg (by omega), if_pos hq2]
        rw [hin]
        rw [if_neg (by omega)] at hpx
        have e1 := eG p.slots
        have e2 := gO p.slots
        have hS1m := hS1.mono hle1x
        repeat' (first | refine KO ?_ | ((with_reducible show G _ _ _ _ (Oper.mk _ (Op.call (Call.mk (Callee.builtin Builtin.append) _ _)) _ _ _ _ :: _) _ _ _); (with_reducible apply aAl); exact rfl; (with_reducible apply lI); (iterate 3 exact rfl); (repeat with_reducible exact cF); (iterate 6 exact rfl); ((with_reducible apply fZ); exact rfl; exact hS1m; simp); omega; (assumption); omega; omega; intro v; (with_reducible apply tV 0); exact rfl; omega; (rintro g cap rfl hcap)) | refine KI ?_ | refine NB fun b => ?_ | fail)
        all_goals try (exfalso; omega)
        all_goals repeat' (first | fail)
        all_goals first
          | (refine gF rfl ?_; intro μ4 hle4 hsh4; have hsh5 := hZ hsh4; exact J1 (μ4, _, wx) ⟨hlex.trans hle4, bK.eD hsh4 (by simp; omega) rfl, hpx.mono hle4, hp0.2.2.mono (hle1x.trans hle4)⟩)
          | (refine gE rfl ?_; intro μ4 hle4 hsh4; have hsh5 := hZ hsh4; exact J1 (μ4, _, wx) ⟨hlex.trans hle4, bK.eD hsh4 (by simp; omega) rfl, hpx.mono hle4, hp0.2.2.mono (hle1x.trans hle4)⟩)
          | (refine gq_share_2 rfl ?_; intro μ4 hle4 hsh4; have hsh5 := hZ hsh4; exact J1 (μ4, _, wx) ⟨hlex.trans hle4, bK.eD hsh4 (by simp; omega) rfl, hpx.mono hle4, hp0.2.2.mono (hle1x.trans hle4)⟩)
      have hsc : (Iq.inside t.op t.n p).inSc = p.inSc := by rw [WM, if_neg hq2]
      rw [hsc]
      have hpl2 : PlV μx (Iq.inside t.op t.n p) (Value.slice A1 p.slots.length c1) wx (Value.slice A3 p.agains.length c3) := by
        by_cases hq1 : t.op = 164
        · have hin : Iq.inside t.op t.n p = { p with breaks := p.breaks ++ [t.n] } := by unfold Iq.inside; rw [if_pos hq1]
          rw [if_pos hq1] at hpx
          rw [hin]
          exact ⟨hp0.1.mono hle1x, hpx, hp0.2.2.mono hle1x⟩
        · have hin : Iq.inside t.op t.n p = p := by unfold Iq.inside; rw [if_neg hq1, if_neg hq2]
          rw [if_neg hq1] at hpx
          rw [hin]
          exact ⟨hp0.1.mono hle1x, hpx, hp0.2.2.mono hle1x⟩
      repeat' (first | refine KK ?_ | fail)
      all_goals try (exfalso; omega)
      all_goals exact J1 (μx, (Value.slice A1 p.slots.length c1), wx) ⟨hlex, hpl2⟩
    rintro ⟨μ2, w1, w2⟩ ⟨hle2, hp2⟩
    dsimp only [List.cons_append, List.nil_append] at hle2 hp2 ⊢
    have hle12 := hle1.trans hle2
    have ow1 := hp2.1.one
    obtain ⟨p2, hp2e⟩ : ∃ p2, p2 = Iq.inside t.op t.n p := ⟨_, rfl⟩
    have hkid2 := fun (j : Nat) (c' : Iq.CkS) (h : Iq.cnt c.met ≤ Iq.cnt c'.met) => SP (m := t.m) j hP hn' h5 h
    have hag2 : p2.agains = p.agains := by
      rw [hp2e]
      unfold Iq.inside
      split
      · rfl
      · split <;> rfl
    rw [← hp2e] at hp2 hR hkid2 ⊢
    clear hp2e
    obtain ⟨A4, c4, hw2e, hS4⟩ := hp2.2.1
    subst hw2e
    repeat' (first | refine KK ?_ | fail)
    refine aX (ι := Nat × Iq.CkS × CIx × Mem) (fun q => q.1 ≤ t.kids.length ∧ MLe μ2 q.2.2.2 ∧ CkI q.2.2.2 q.2.1 q.2.2.1 ∧ CkB n q.2.1 ∧ Iq.cnt c.met ≤ Iq.cnt q.2.1.met ∧ Iq.gP aH (bM ps) f t.op t.n t.m p2 deep (t.kids.drop q.1) q.1 q.2.1 = R) (fun q => t.kids.length - q.1) (fun q => q.2.2.2) (fun q => [(11, .int .i64 (q.1 : Int)), (0, .pointer (some ⟨fb, 0, none⟩)), (3, .int .i64 deep), (5, .pointer (some ⟨bn, 0, none⟩)), (6, .pointer (some ⟨bp, 0, none⟩))]) (fun q => ckR fb gm gs n (.slice (some adU) n cc) f q.2.1 q.2.2.1 ++ [.inl ⟨bn, 42, 6, idx 0 (aR t (.slice A0 t.kids.length cK))⟩, .inl ⟨bp, 119, 4, idx 0 [w1, (Value.slice A4 p2.breaks.length c4), (Value.slice A3 p.agains.length c3), .bool p2.inSc]⟩]) (0, s1, i1, μ2) ⟨by omega, MLe.refl _, hi1.mono hle2, hB1, hcm1, hR⟩ (fun a w hs => hs.sel PU PS) ?_
    rintro ⟨k, ck, ik, μk⟩ ⟨hk1, hlek, hik, hBk, hcmk, hRk⟩
    dsimp only [List.cons_append, List.nil_append] at hk1 hlek hik hBk hcmk hRk ⊢
    by_cases hlt : k < t.kids.length
    · have hkk : t.kids[k]? = some t.kids[k] := List.getElem?_eq_getElem hlt
      have hksz := T.oK hkk
      have hkall := hall.kid (List.mem_of_getElem? hkk)
      generalize t.kids[k] = kd at hkk hksz hkall
      obtain ⟨ad, x, rfl, hm0, hox, hkx⟩ := cL k kd hkk
      rw [lV hkk, yS] at hRk
      have hlek2 := hle12.trans hlek
      have hm := hm0.mono hlek2
      have hpk := hp2.mono hlek
      repeat' (first | ((with_reducible show GC _ _ (Code.seq (Code.seq (Code.region 13 _ _) _) _) _ _ _ _); (apply aY)) | refine KO ?_ | refine KI ?_ | refine NB fun b => ?_ | fail)
      all_goals try (exfalso; omega)
      obtain ⟨bq, hbq⟩ : ∃ x, x = b := ⟨_, rfl⟩
      rw [← hbq]
      clear hbq
      refine gcs (bY (l' := [(11, .int .i64 (k : Int)), (12, .pointer (some ⟨bq, 0, none⟩)), (0, .pointer (some ⟨fb, 0, none⟩)), (3, .int .i64 deep), (5, .pointer (some ⟨bn, 0, none⟩)), (6, .pointer (some ⟨bp, 0, none⟩))]) (L' := ckR fb gm gs n (.slice (some adU) n cc) f ck ik ++ [.inl ⟨bn, 42, 6, idx 0 (aR t (.slice (some ad) t.kids.length cK))⟩, .inl ⟨bp, 119, 4, idx 0 [w1, (Value.slice A4 p2.breaks.length c4), (Value.slice A3 p.agains.length c3), .bool p2.inSc]⟩, .inl ⟨bq, 119, 4, idx 0 [w1, (Value.slice A4 p2.breaks.length c4), (Value.slice A3 p.agains.length c3), .bool p2.inSc]⟩]) PU PS ?_)
      dsimp only [List.cons_append, List.nil_append]
      refine cM (ι := Mem × Value × Value) (fun y => MLe μk y.1 ∧ PlV y.1 (Iq.dN t.op t.n t.m p2 k) w1 y.2.1 y.2.2) (fun y => y.1) (fun _ => [(11, .int .i64 (k : Int)), (12, .pointer (some ⟨bq, 0, none⟩)), (0, .pointer (some ⟨fb, 0, none⟩)), (3, .int .i64 deep), (5, .pointer (some ⟨bn, 0, none⟩)), (6, .pointer (some ⟨bp, 0, none⟩))]) (fun y => ckR fb gm gs n (.slice (some adU) n cc) f ck ik ++ [.inl ⟨bn, 42, 6, idx 0 (aR t (.slice (some ad) t.kids.length cK))⟩, .inl ⟨bp, 119, 4, idx 0 [w1, (Value.slice A4 p2.breaks.length c4), (Value.slice A3 p.agains.length c3), .bool p2.inSc]⟩, .inl ⟨bq, 119, 4, idx 0 [w1, y.2.1, y.2.2, .bool p2.inSc]⟩]) ?_ ?_
      · by_cases hq : t.op = 163 ∧ k = 1
        · have hak : Iq.dN t.op t.n t.m p2 k = { p2 with breaks := p2.breaks ++ [t.n], agains := p2.agains ++ [t.m] } := by unfold Iq.dN; rw [if_pos hq]
          rw [hak]
          obtain ⟨hq1, hq2⟩ := hq
          have hq3 : (k : Int) = 1 := by omega
          have e1 := eG p2.breaks
          have e2 := gO p2.breaks
          have e3 := eG p.agains
          have e4 := gO p.agains
          have hSb := hS4.mono hlek
          have hSc := hS3.mono hlek2
          have hb1 := (hkid2 0 c (Nat.le_refl _)).b1
          have hb2 := (hkid2 0 c (Nat.le_refl _)).b2
          have hak0 : Iq.dN t.op t.n t.m p2 0 = p2 := by unfold Iq.dN; rw [if_neg (by omega)]
          rw [hak0] at hb1 hb2
          repeat' (first | ((with_reducible show GC _ _ (Code.seq (Code.region 14 _ _) _) _ _ _ _); (apply aY)) | refine KK ?_ | refine KG ?_ | fail)
          all_goals try (exfalso; omega)
          refine gcs (bY (l' := [(11, .int .i64 (k : Int)), (12, .pointer (some ⟨bq, 0, none⟩)), (0, .pointer (some ⟨fb, 0, none⟩)), (3, .int .i64 deep), (5, .pointer (some ⟨bn, 0, none⟩)), (6, .pointer (some ⟨bp, 0, none⟩))]) (L' := ckR fb gm gs n (.slice (some adU) n cc) f ck ik ++ [.inl ⟨bn, 42, 6, idx 0 (aR t (.slice (some ad) t.kids.length cK))⟩, .inl ⟨bp, 119, 4, idx 0 [w1, (Value.slice A4 p2.breaks.length c4), (Value.slice A3 p.agains.length c3), .bool p2.inSc]⟩, .inl ⟨bq, 119, 4, idx 0 [w1, (Value.slice A4 p2.breaks.length c4), (Value.slice A3 p.agains.length c3), .bool p2.inSc]⟩]) PU PS ?_)
          dsimp only [List.cons_append, List.nil_append]
          refine cM (ι := Mem × Value) (fun y => MLe μk y.1 ∧ bK y.1 y.2 (p2.breaks ++ [t.n])) (fun y => y.1) (fun _ => [(11, .int .i64 (k : Int)), (12, .pointer (some ⟨bq, 0, none⟩)), (0, .pointer (some ⟨fb, 0, none⟩)), (3, .int .i64 deep), (5, .pointer (some ⟨bn, 0, none⟩)), (6, .pointer (some ⟨bp, 0, none⟩))]) (fun y => ckR fb gm gs n (.slice (some adU) n cc) f ck ik ++ [.inl ⟨bn, 42, 6, idx 0 (aR t (.slice (some ad) t.kids.length cK))⟩, .inl ⟨bp, 119, 4, idx 0 [w1, (Value.slice A4 p2.breaks.length c4), (Value.slice A3 p.agains.length c3), .bool p2.inSc]⟩, .inl ⟨bq, 119, 4, idx 0 [w1, y.2, (Value.slice A3 p.agains.length c3), .bool p2.inSc]⟩]) ?_ ?_
          · refine bN 10 ([.inl ⟨bn, 42, 6, idx 0 (aR t (.slice (some ad) t.kids.length cK))⟩, .inl ⟨bp, 119, 4, idx 0 [w1, (Value.slice A4 p2.breaks.length c4), (Value.slice A3 p.agains.length c3), .bool p2.inSc]⟩]) (by kernel_rfl) rfl PS ?_
            all_goals refine DD 1 ?_
            all_goals refine DD 2 ?_
            all_goals refine DD 4 ?_
            all_goals refine DD 5 ?_
            refine bT 0 6 (by kernel_rfl) ?dr17_0 ?dr17_6
            case' dr17_0 =>
              ((refine D5 ?_; refine NB fun b => ?_; (with_reducible apply mG 1); refine D9S ?_))
              refine bT 3 6 (by kernel_rfl) ?dr18_3 ?dr18_6
              case' dr18_3 =>
                ((refine D5 ?_; ((refine AX (S := fZ rfl hSb (by simp)) (A := by omega) (O := by exact e2) (k := fun v => ?_))); refine D9S ?_))
                all_goals ((refine D3 6 ?_; refine D5 ?_; refine NB fun b => ?_; refine D9S ?_))
                all_goals ((refine D3 7 ?_; refine D5 ?_; (refine AI (k := fun g cap hcap => ?_)); refine D9S ?_))
                all_goals refine DD 8 ?_
                all_goals ((refine D3 9 ?_; refine D5 ?_; refine Y0 ?_; refine D9S ?_))
                all_goals refine D8 ?_
              case' dr18_6 =>
                ((refine D5 ?_; refine NB fun b => ?_; refine D9S ?_))
                all_goals ((refine D3 3 ?_; refine D5 ?_; ((refine AX (S := fZ rfl hSb (by simp)) (A := by omega) (O := by exact e2) (k := fun v => ?_))); refine D9S ?_))
                all_goals ((refine D3 7 ?_; refine D5 ?_; (refine AI (k := fun g cap hcap => ?_)); refine D9S ?_))
                all_goals refine DD 8 ?_
                all_goals ((refine D3 9 ?_; refine D5 ?_; refine Y0 ?_; refine D9S ?_))
                all_goals refine D8 ?_
            case' dr17_6 =>
              ((refine D5 ?_; refine NB fun b => ?_; refine D9S ?_))
              all_goals ((refine D3 0 ?_; refine D5 ?_; refine NB fun b => ?_; (with_reducible apply mG 1); refine D9S ?_))
              all_goals ((refine D3 3 ?_; refine D5 ?_; ((refine AX (S := fZ rfl hSb (by simp)) (A := by omega) (O := by exact e2) (k := fun v => ?_))); refine D9S ?_))
              all_goals ((refine D3 7 ?_; refine D5 ?_; (refine AI (k := fun g cap hcap => ?_)); refine D9S ?_))
              all_goals refine DD 8 ?_
              all_goals ((refine D3 9 ?_; refine D5 ?_; refine Y0 ?_; refine D9S ?_))
              all_goals refine D8 ?_
            all_goals repeat' (first | fail)
            all_goals first
              | (refine gF rfl ?_; intro μ4 hle4 hsh4; have hsh5 := hZ hsh4; exact J1 (μ4, _) ⟨hle4, bK.eD hsh4 (by simp) (by rw [List.flatMap_append]; rfl)⟩)
              | (refine gE rfl ?_; intro μ4 hle4 hsh4; have hsh5 := hZ hsh4; exact J1 (μ4, _) ⟨hle4, bK.eD hsh4 (by simp) (by rw [List.flatMap_append]; rfl)⟩)
              | (refine gq_share_2 rfl ?_; intro μ4 hle4 hsh4; have hsh5 := hZ hsh4; exact J1 (μ4, _) ⟨hle4, bK.eD hsh4 (by simp) (by rw [List.flatMap_append]; rfl)⟩)
          rintro ⟨μ5, w5⟩ ⟨hle5, hv5⟩
          dsimp only [List.cons_append, List.nil_append] at hle5 hv5 ⊢
          have ow5 := hv5.one
          have hSc5 := hSc.mono hle5
          refine bN 10 ([.inl ⟨bn, 42, 6, idx 0 (aR t (.slice (some ad) t.kids.length cK))⟩, .inl ⟨bp, 119, 4, idx 0 [w1, (Value.slice A4 p2.breaks.length c4), (Value.slice A3 p.agains.length c3), .bool p2.inSc]⟩]) (by kernel_rfl) rfl PS ?_
          all_goals refine DD 1 ?_
          all_goals refine DD 2 ?_
          all_goals refine DD 4 ?_
          all_goals refine DD 5 ?_
          refine bT 0 6 (by kernel_rfl) ?dr19_0 ?dr19_6
          case' dr19_0 =>
            ((refine D5 ?_; refine NB fun b => ?_; (with_reducible apply mG 1); refine D9S ?_))
            refine bT 3 6 (by kernel_rfl) ?dr20_3 ?dr20_6
            case' dr20_3 =>
              ((refine D5 ?_; ((refine AX (S := fZ rfl hSc5 (by simp)) (A := by omega) (O := by exact e4) (k := fun v => ?_))); refine D9S ?_))
              all_goals ((refine D3 6 ?_; refine D5 ?_; refine NB fun b => ?_; refine D9S ?_))
              all_goals ((refine D3 7 ?_; refine D5 ?_; (refine AI (k := fun g cap hcap => ?_)); refine D9S ?_))
              all_goals refine DD 8 ?_
              all_goals ((refine D3 9 ?_; refine D5 ?_; refine Y0 ?_; refine D9S ?_))
              all_goals refine D8 ?_
            case' dr20_6 =>
              ((refine D5 ?_; refine NB fun b => ?_; refine D9S ?_))
              all_goals ((refine D3 3 ?_; refine D5 ?_; ((refine AX (S := fZ rfl hSc5 (by simp)) (A := by omega) (O := by exact e4) (k := fun v => ?_))); refine D9S ?_))
              all_goals ((refine D3 7 ?_; refine D5 ?_; (refine AI (k := fun g cap hcap => ?_)); refine D9S ?_))
              all_goals refine DD 8 ?_
              all_goals ((refine D3 9 ?_; refine D5 ?_; refine Y0 ?_; refine D9S ?_))
              all_goals refine D8 ?_
          case' dr19_6 =>
            ((refine D5 ?_; refine NB fun b => ?_; refine D9S ?_))
            all_goals ((refine D3 0 ?_; refine D5 ?_; refine NB fun b => ?_; (with_reducible apply mG 1); refine D9S ?_))
            all_goals ((refine D3 3 ?_; refine D5 ?_; ((refine AX (S := fZ rfl hSc5 (by simp)) (A := by omega) (O := by exact e4) (k := fun v => ?_))); refine D9S ?_))
            all_goals ((refine D3 7 ?_; refine D5 ?_; (refine AI (k := fun g cap hcap => ?_)); refine D9S ?_))
            all_goals refine DD 8 ?_
            all_goals ((refine D3 9 ?_; refine D5 ?_; refine Y0 ?_; refine D9S ?_))
            all_goals refine D8 ?_
          all_goals repeat' (first | fail)
          all_goals first
            | (refine gF rfl ?_; intro μ4 hle4 hsh4; have hsh5 := hZ hsh4; exact J1 (μ4, w5, _) ⟨hle5.trans hle4, hpk.1.mono (hle5.trans hle4), hv5.mono hle4, bK.eD hsh4 (by rw [hag2]; simp) (by rw [hag2, List.flatMap_append]; rfl)⟩)
            | (refine gE rfl ?_; intro μ4 hle4 hsh4; have hsh5 := hZ hsh4; exact J1 (μ4, w5, _) ⟨hle5.trans hle4, hpk.1.mono (hle5.trans hle4), hv5.mono hle4, bK.eD hsh4 (by rw [hag2]; simp) (by rw [hag2, List.flatMap_append]; rfl)⟩)
            | (refine gq_share_2 rfl ?_; intro μ4 hle4 hsh4; have hsh5 := hZ hsh4; exact J1 (μ4, w5, _) ⟨hle5.trans hle4, hpk.1.mono (hle5.trans hle4), hv5.mono hle4, bK.eD hsh4 (by rw [hag2]; simp) (by rw [hag2, List.flatMap_append]; rfl)⟩)
        · have hak : Iq.dN t.op t.n t.m p2 k = p2 := by unfold Iq.dN; rw [if_neg hq]
          rw [hak]
          have hq3 : t.op = 163 → ¬ (k : Int) = 1 := fun h h2 => hq ⟨h, by omega⟩
          by_cases hq4 : t.op = 163
          all_goals try have hq5 := hq3 hq4
          all_goals clear hq3
          all_goals repeat' (first | refine KK ?_ | refine KG ?_ | fail)
          all_goals try (exfalso; omega)
          all_goals exact J1 (μk, (Value.slice A4 p2.breaks.length c4), (Value.slice A3 p.agains.length c3)) ⟨MLe.refl _, hpk⟩
      rintro ⟨μ6, w3, w4⟩ ⟨hle6, hp6⟩
      dsimp only [List.cons_append, List.nil_append] at hle6 hp6 ⊢
      have ow3 := hp6.2.1.one
      have ow4 := hp6.2.2.one
      have hmn := fun (w2 : World) (hw2 : MOk μ6 w2) (hO2 : Go.Vcg.Own μ6 (ckR fb gm gs n (.slice (some adU) n cc) f ck ik) w2) => ih ps (some adU) cc n fb gm gs kd x f (Iq.dN t.op t.n t.m p2 k) w1 w3 w4 (deep + 1) ck ik w2 μ6 hw2 hO2 (hmq.mono (hlek2.trans hle6)) (hU.mono (hlek2.trans hle6)) hf (hkx.mono (hlek2.trans hle6)) hkall (by omega) (by omega) hp6 (hik.mono hle6) hBk (hkid2 k ck hcmk) (by omega) (by omega)
      rw [MJ] at hmn
      have hckb := fun (c' : Iq.CkS) (b : Bool) => sZ (row := aH) (fs := bM ps) (t := kd) (f := f) (p := Iq.dN t.op t.n t.m p2 k) (deep := deep + 1) (c' := c') (b := b) hfl hn1 hloc hBk (hkid2 k ck hcmk) (wG kd hkall (by omega))
      generalize Iq.dI aH (bM ps) f kd (Iq.dN t.op t.n t.m p2 k) (deep + 1) ck = S2 at hmn hRk hckb
      obtain ⟨s2, b2⟩ := S2
      dsimp only at hmn hRk
      repeat' (first | ((with_reducible show GC _ _ (Code.seq (Code.region 16 _ _) _) _ _ _ _); (apply aY)) | fail)
      refine gcs (tU ?_)
      have hm6 := hm.mono hle6
      cases b2
      · rw [if_neg (by simp)] at hRk
        subst hRk
        refine bN 11 ([.inl ⟨bn, 42, 6, idx 0 (aR t (.slice (some ad) t.kids.length cK))⟩, .inl ⟨bq, 119, 4, idx 0 [w1, w3, w4, .bool p2.inSc]⟩]) (by kernel_rfl) rfl PS ?_
        all_goals refine DD 0 ?_
        all_goals (first | refine D1 1 ?_ | fail)
        all_goals (first | refine DD 2 ?_ | fail)
        all_goals refine DD 3 ?_
        all_goals (first | (refine DV (k := 4) (b := by exact U1 k) (c := ?_)) | fail)
        all_goals (first | (refine DV (k := 5) (b := by exact U4 hm6) (c := ?_)) | fail)
        all_goals (first | refine DD 6 ?_ | fail)
        all_goals refine DD 7 ?_
        all_goals (first | refine DD 8 ?_ | fail)
        all_goals ((refine D3 9 ?_; refine D5 ?_; (with_reducible apply aA (Ls := fun i2 => ckR fb gm gs n (.slice (some adU) n cc) f s2 i2) (Post := fW s2 false) 4); (iterate 3 exact rfl); ((with_reducible apply cC); kernel_rfl; (iterate 4 exact rfl)); exact rfl; (exact hmn); (rintro v6 μ7 i2 hle7 ⟨rfl, hi2⟩); (dsimp only [List.cons_append, List.nil_append]); refine D9S ?_))
        all_goals refine DD 10 ?_
        all_goals refine D8 ?_
        all_goals repeat' (first | refine KK ?_ | fail)
        all_goals (refine aM (l' := [(8, .bool false)]) (L' := ckR fb gm gs n (.slice (some adU) n cc) f s2 i2) PU PS ?_; exact bZ hcnt rfl (aB rfl) i2 rfl rfl hi2)
      · rw [if_pos rfl] at hRk
        obtain ⟨hB2, hcm2⟩ := hckb s2 true rfl rfl
        refine bN 11 ([.inl ⟨bn, 42, 6, idx 0 (aR t (.slice (some ad) t.kids.length cK))⟩, .inl ⟨bq, 119, 4, idx 0 [w1, w3, w4, .bool p2.inSc]⟩]) (by kernel_rfl) rfl PS ?_
        all_goals refine DD 0 ?_
        all_goals (first | refine D1 1 ?_ | fail)
        all_goals (first | refine DD 2 ?_ | fail)
        all_goals refine DD 3 ?_
        all_goals (first | (refine DV (k := 4) (b := by exact U1 k) (c := ?_)) | fail)
        all_goals (first | (refine DV (k := 5) (b := by exact U4 hm6) (c := ?_)) | fail)
        all_goals (first | refine DD 6 ?_ | fail)
        all_goals refine DD 7 ?_
        all_goals (first | refine DD 8 ?_ | fail)
        all_goals ((refine D3 9 ?_; refine D5 ?_; (with_reducible apply aA (Ls := fun i2 => ckR fb gm gs n (.slice (some adU) n cc) f s2 i2) (Post := fW s2 true) 4); (iterate 3 exact rfl); ((with_reducible apply cC); kernel_rfl; (iterate 4 exact rfl)); exact rfl; (exact hmn); (rintro v6 μ7 i2 hle7 ⟨rfl, hi2⟩); (dsimp only [List.cons_append, List.nil_append]); refine D9S ?_))
        all_goals refine DD 10 ?_
        all_goals refine D8 ?_
        all_goals repeat' (first | refine KK ?_ | fail)
        all_goals exact J2 (k + 1, s2, i2, μ7) ⟨by dsimp only; omega, hlek.trans (hle6.trans hle7), hi2, hB2, Nat.le_trans hcmk hcm2, hRk⟩ (by dsimp only; omega)
    · rw [List.drop_of_length_le (by omega), DA] at hRk
      subst hRk
      repeat' (first | refine KK ?_ | fail)
      all_goals (refine aM (l' := [(8, .bool true)]) (L' := ckR fb gm gs n (.slice (some adU) n cc) f ck ik) PU PS ?_; exact bZ hcnt rfl (aB rfl) ik rfl rfl hik)
end Go.Proofs.YtoclmkdfcafhfaaGreatDoor
