/- Package ir: the check of a node and its descendants, the program's side. -/
import Derived.Test.YtoclmkdfcafhfaaGreatDoorZas
import Derived.Test.YtoclmkdfcafhfaaGreatDoorZar
set_option maxRecDepth 20000
set_option maxHeartbeats 2000000
namespace Go.Proofs.YtoclmkdfcafhfaaGreatDoor
section
open Go.RowKit Go.Vcg Ou
theorem gU.here {q : It → Prop} {t : T} (h : gU q t) : ∃ k, q ⟨t.op, t.at', t.n, t.m, t.s, k⟩ := by
  cases h with
  | node h hk => exact h
theorem gU.kid {q : It → Prop} {t : T} (h : gU q t) {k : T} (hk : k ∈ t.kids) : gU q k := by
  cases h with
  | node h hk2 => exact hk2 k hk
def qN (y : It) : Prop := (-9223372036854775808 ≤ y.op ∧ y.op ≤ 9223372036854775807) ∧ y.s.size ≤ 65536
theorem aDp {t : T} (h : gU qN t) : -9223372036854775808 ≤ t.op ∧ t.op ≤ 9223372036854775807 := by
  obtain ⟨k, h1, h2⟩ := h.here
  exact h1
theorem aEo {t : T} (h : gU qN t) : t.s.size ≤ 65536 := by
  obtain ⟨k, h1, h2⟩ := h.here
  exact h2
mutual
theorem wG : ∀ (t : T), gU qN t → t.size ≤ 100000 → Iq.SzT t
  | .mk op a n m s kids, h, hs => by
    have h1 := aEo h
    have h2 := sK (.mk op a n m s kids)
    exact ⟨by show kids.length ≤ _; simp only [T.kids] at h2; omega, h1, XW kids (fun k hk => h.kid hk) (fun k hk => by
      obtain ⟨i, hi⟩ := List.mem_iff_getElem?.1 hk
      have := T.oK (t := .mk op a n m s kids) hi
      omega)⟩
theorem XW : ∀ (ts : List T), (∀ t ∈ ts, gU qN t) → (∀ t ∈ ts, t.size ≤ 100000) → Iq.SzL ts
  | [], _, _ => trivial
  | t :: r, h, hs => ⟨wG t (h t (List.mem_cons_self ..)) (hs t (List.mem_cons_self ..)), XW r (fun k hk => h k (List.mem_cons_of_mem _ hk)) (fun k hk => hs k (List.mem_cons_of_mem _ hk))⟩
end
theorem KA {μ : Mem} (h : fY μ) : rP μ := fun w hw => by
  obtain ⟨m, hm⟩ := h
  obtain ⟨c, t, f, h1, h2, h3⟩ := hm
  refine ⟨m, ?_⟩
  have h4 := hw _ _ h1
  show w.cell? ⟨0, 0, none⟩ = _
  dsimp only at h3 h4
  simp [World.cell?, h4, h3]
section
variable {row : Int → List UInt8 × List UInt8} {fs : Iq.Fns}
theorem JR (f : Int) (t : T) (p : Iq.PlP) (deep : Int) (c : Iq.CkS) : Iq.dI row fs f t p deep c = (if Iq.eO row fs t f deep = true then (if (Iq.cA fs f t.op t.n t.m p c).2 = true then Iq.gP row fs f t.op t.n t.m (Iq.inside t.op t.n p) deep t.kids 0 (Iq.cA fs f t.op t.n t.m p c).1 else ((Iq.cA fs f t.op t.n t.m p c).1, false)) else (c, false)) := by
  cases t with
  | mk op a n m s kids => rw [Iq.dI]; rfl
theorem yS (f op n m : Int) (p : Iq.PlP) (deep : Int) (t : T) (ts : List T) (i : Nat) (c : Iq.CkS) : Iq.gP row fs f op n m p deep (t :: ts) i c = (if (Iq.dI row fs f t (Iq.dN op n m p i) (deep + 1) c).2 = true then Iq.gP row fs f op n m p deep ts (i + 1) (Iq.dI row fs f t (Iq.dN op n m p i) (deep + 1) c).1 else ((Iq.dI row fs f t (Iq.dN op n m p i) (deep + 1) c).1, false)) := by
  rw [Iq.gP]
theorem DA (f op n m : Int) (p : Iq.PlP) (deep : Int) (i : Nat) (c : Iq.CkS) : Iq.gP row fs f op n m p deep [] i c = (c, true) := by
  rw [Iq.gP]
theorem iS (t : T) (f deep : Int) : Iq.eO row fs t f deep = (decide (deep ≤ 2048) && (!(row t.op).1.isEmpty && (Iq.fX (row t.op).2 (t.kids.map T.op) && (Iq.cT t.op t.s.data.toList && (Iq.cG t.op t.m && (Iq.bB t.op t.n (Iq.fN fs f) fs.length && Iq.eW t.op t.m (t.kids.map T.op))))))) := rfl
theorem sZ {n : Nat} {t : T} {f : Int} {p : Iq.PlP} {deep : Int} {c c' : Iq.CkS} {b : Bool} (hfl : fs.length = n) (h1 : n ≤ 4096) (hloc : ∀ f, Iq.fN fs f ≤ 4096) (hB : CkB n c) (hP : PlB p deep c) (hz : Iq.SzT t) (h : Iq.dI row fs f t p deep c = (c', b)) (hb : b = true) : CkB n c' ∧ Iq.cnt c.met ≤ Iq.cnt c'.met := by
  subst hb
  subst hfl
  have h2 := Iq.SW (row := row) h1 hloc t f p deep c c' hB.ck hP.pl hz h
  have h3 := Iq.oY (row := row) (fs := fs) t f p deep c hB.met
  rw [h] at h3
  exact ⟨⟨h2.2.1, h3.2.1.trans hB.sl, by rw [h3.2.2]; exact hB.me⟩, h2.2.2⟩
theorem aEs {op n : Int} {f : Int} {p : Iq.PlP} {deep : Int} {c c' : Iq.CkS} (hP : PlB p deep c) (hn : Iq.bB op n (Iq.fN fs f) fs.length = true) (hc : Iq.cnt c.met ≤ Iq.cnt c'.met) : Iq.tE (Iq.inside op n p) (deep + 1) (Iq.cnt c'.met) := (Iq.DC hP.pl hn).up hc
theorem SP {op n m : Int} {f : Int} {p : Iq.PlP} {deep : Int} {c c' : Iq.CkS} (i : Nat) (hP : PlB p deep c) (hn : Iq.bB op n (Iq.fN fs f) fs.length = true) (hm : Iq.cG op m = true) (hc : Iq.cnt c.met ≤ Iq.cnt c'.met) : PlB (Iq.dN op n m (Iq.inside op n p) i) (deep + 1) c' := by
  refine ⟨Iq.MK (aEs hP hn hc) hn hm, ?_, ?_⟩
  · have := hP.b1
    unfold Iq.dN Iq.inside
    split
    · rename_i h
      rw [if_neg (by omega), if_neg (by omega)]
      simp only [List.length_append, List.length_cons, List.length_nil]
      omega
    · split
      · simp only [List.length_append, List.length_cons, List.length_nil]
        omega
      · split <;> (try dsimp only) <;> omega
  · have := hP.b2
    unfold Iq.dN Iq.inside
    split
    · rename_i h
      rw [if_neg (by omega), if_neg (by omega)]
      simp only [List.length_append, List.length_cons, List.length_nil]
      omega
    · split
      · (try dsimp only); omega
      · split <;> (try dsimp only) <;> omega
theorem zN {n : Nat} {t : T} {f : Int} {p : Iq.PlP} {deep : Int} {c : Iq.CkS} (hfl : fs.length = n) (hB : CkB n c) (hP : PlB p deep c) (hd : deep ≤ 2048) (hn : Iq.bB t.op t.n (Iq.fN fs f) fs.length = true) : CkB n (Iq.cA fs f t.op t.n t.m p c).1 ∧ Iq.cnt c.met ≤ Iq.cnt (Iq.cA fs f t.op t.n t.m p c).1.met := by
  subst hfl
  have h1 := Iq.BF (f := f) (op := t.op) (n := t.n) (m := t.m) hB.ck hP.pl hd hn
  have h2 := Iq.qT f t.op t.n t.m p c hB.met hn
  exact ⟨⟨h1.1, h2.2.1.trans hB.sl, by rw [h2.2.2]; exact hB.me⟩, h1.2⟩
end
theorem FX {μ : Mem} {A : Option Addr} {n : Nat} {ps : List (F × Value)} (hU : UOk μ A n ps) (f : Int) : Iq.fN (bM ps) f ≤ 4096 := by
  unfold Iq.fN bM
  rw [List.getD_eq_getElem?_getD, List.getElem?_map]
  cases hf : ps[f.toNat]? with
  | none => decide
  | some x => exact (hU.kd x (List.mem_of_getElem? hf)).2.2
theorem WM (op n : Int) (p : Iq.PlP) : (Iq.inside op n p).inSc = (if op = 170 then true else p.inSc) := by
  unfold Iq.inside
  split
  · rw [if_neg (by omega)]
  · split <;> rfl
theorem MJ (op n m : Int) (p : Iq.PlP) (i : Nat) : (Iq.dN op n m p i).inSc = p.inSc := by
  unfold Iq.dN
  split <;> rfl
def aFr (N : Nat) : Prop := ∀ (ps : List (F × Value)) (A : Option Addr) (cc n : Nat) (fb gm gs : Nat) (t : T) (u : Value) (f : Nat) (p : Iq.PlP) (v1 v2 v3 : Value) (deep : Int) (c : Iq.CkS) (i : CIx) (w : World) (μ : Mem), MOk μ w → Go.Vcg.Own μ (ckP fb gm gs n (.slice A n cc) c i) w → fY μ → UOk μ A n ps → f < n → KR μ t.kids u → gU qN t → t.size ≤ N → t.size ≤ 100000 → PlV μ p v1 v2 v3 → CkI μ c i → CkB n c → PlB p deep c → 1 ≤ deep → deep ≤ 2049 →
  Calls Tryz.prog 76 #[.pointer (some ⟨fb, 0, none⟩), .agg (aR t u).toArray, .int .i64 (f : Int), .agg #[v1, v2, v3, .bool p.inSc], .int .i64 deep] w fun e w' => ∃ v μ' i', e = .returned v ∧ fH (bS (ckP fb gm gs n (.slice A n cc) c i)) w w' μ (ckP fb gm gs n (.slice A n cc) (Iq.dI aH (bM ps) f t p deep c).1 i') μ' ∧ fW (Iq.dI aH (bM ps) f t p deep c).1 (Iq.dI aH (bM ps) f t p deep c).2 μ' v i'
attribute [local irreducible] Iq.dI Iq.gP Iq.cA Iq.eO aH G GC GQ GA bO Calls IntKind.wrap Int.decLt Int.decLe
theorem vG (t : T) (u : Value) (hu : u.oneCell' = true) (f : F) (v : Value) (hv : v.oneCell' = true) (k : Int) (b : Bool) (hb : Iq.bB t.op t.n f.loc k = b) (hL : 0 ≤ f.loc ∧ f.loc ≤ 100000) (hk : 0 ≤ k ∧ k ≤ 100000) (w : World) (μ : Mem) (hμ : MOk μ w) : Calls Tryz.prog 109 #[.agg (aR t u).toArray, .agg (dS f v).toArray, .int .i64 k] w fun e w' => e = .returned (.bool b) ∧ Below w.heap.size w w' := by
  subst hb
  exact OU t u hu f v hv k hL hk w μ hμ
theorem FN (t : T) (u : Value) (b : Bool) (hb : Iq.eW t.op t.m (t.kids.map T.op) = b) (w : World) (μ : Mem) (hμ : MOk μ w) (hu : KR μ t.kids u) (hk : t.kids.length ≤ 100000) (hm : t.op = 129 → 0 ≤ t.m ∧ t.m ≤ 1) : Calls Tryz.prog 110 #[.agg (aR t u).toArray] w fun e w' => e = .returned (.bool b) ∧ Below w.heap.size w w' := by
  subst hb
  exact PE t u w μ hμ hu hk hm
theorem FJ (t : T) (u : Value) (hu : u.oneCell' = true) (hs : t.s.size ≤ 1000000) (b : Bool) (hb : Iq.cT t.op t.s.data.toList = b) (w : World) (μ : Mem) (hμ : MOk μ w) (hm : fY μ) : Calls Tryz.prog 107 #[.agg (aR t u).toArray] w fun e w' => e = .returned (.bool b) ∧ Below w.heap.size w w' := by
  subst hb
  exact OS t u hu hs w μ hμ hm
theorem SO (t : T) (u : Value) (hu : u.oneCell' = true) (b : Bool) (hb : Iq.cG t.op t.m = b) (w : World) (μ : Mem) (hμ : MOk μ w) : Calls Tryz.prog 108 #[.agg (aR t u).toArray] w fun e w' => e = .returned (.bool b) ∧ Below w.heap.size w w' := by
  subst hb
  exact OW t u hu w μ hμ
theorem vH (op : Int) (ks : List T) (u : Value) (b : Bool) (hb : Iq.fX (aH op).2 (ks.map T.op) = b) (hsg : (aH op).2.length ≤ 1000) (w : World) (μ : Mem) (hμ : MOk μ w) (hu : KR μ ks u) (hk : ks.length ≤ 100000) : Calls Tryz.prog 106 #[.string (ofB (aH op).2), u] w fun e w' => e = .returned (.bool b) ∧ Below w.heap.size w w' := by
  subst hb
  exact OX (aH op).2 hsg ks u w μ hμ hu hk
end
section
open Go.RowKit Go.Vcg Ou
attribute [local irreducible] Iq.dI Iq.gP Iq.cA Iq.eO aH G GC GQ GA bO Calls IntKind.wrap Int.decLt Int.decLe
theorem kI {μ : Mem} {v : Value} {e s n : Nat} {ys : List Value} (h : Bk.sh (.inr ⟨v, e, s, n, ys⟩) μ) : Bk.sh (.inr ⟨v, e, s, n, ys⟩) μ := h
theorem aCh {m : Int} (h : Iq.cG 129 m = true) : 0 ≤ m ∧ m ≤ 1 := by
  have e : Iq.cG 129 m = Iq.inI m 0 1 := by simp [Iq.cG]
  rw [e] at h
  exact Iq.gQ h
theorem OV : ∀ (N : Nat), aFr N := by
  intro N
  induction N with
  | zero => intro ps A cc n fb gm gs t u f p v1 v2 v3 deep c i w μ hμ hO hmq hU hf hk hall hN; exact absurd hN (by rw [T.size_eq]; omega)
  | succ N ih =>
    intro ps A cc n fb gm gs t u f p v1 v2 v3 deep c i w μ hμ hO hmq hU hf hk hall hN hsz hp hi hB hP hd1 hd2
    have hcnt := bE hO.diff
    have hpl : ps.length = n := hU.fs.1.1
    have hfl : (bM ps).length = n := by rw [List.length_map]; exact hpl
    have hn1 := hU.n1
    have ho := hk.one
    have hkl := sK t
    have hop := aDp hall
    have hs := aEo hall
    have hloc := FX hU
    have hmm := KA hmq
    obtain ⟨rf1, rf2, rf3⟩ := BW t.op
    have hrow : ∀ (w : World) (μc : Mem), MOk μc w → MLe μ μc → Calls Tryz.prog 24 #[.int .i64 t.op] w fun e w' => e = .returned (.tuple #[.string (ofB (aH t.op).1), .string (ofB (aH t.op).2)]) ∧ Below w.heap.size w w' := fun w μc hw hle => wV w μc hw (hmm.mono hle) t.op hop
    obtain ⟨adU, y, rfl, hy, hmU⟩ := hU.fs.1.get hf
    have hyo := (hU.fs.2.2 y (List.mem_of_getElem? hy)).1.one
    have hyl := (hU.kd y (List.mem_of_getElem? hy)).2
    have hp0 := hp
    have ho2 := hp.2.1.one
    have ho3 := hp.2.2.one
    obtain ⟨A1, c1, rfl, hS1⟩ := hp.1
    have hsl1 := hP.sl hB hn1 (by omega)
    have hbl2 := hP.b1
    have hbl3 := hP.b2
    obtain ⟨A0, cK, rfl, hlc, cL⟩ := hk.form
    generalize hR : Iq.dI aH (bM ps) f t p deep c = R
    rw [JR] at hR
    refine aQ (args := [.pointer (some ⟨fb, 0, none⟩), .agg (aR t (.slice A0 t.kids.length cK)).toArray, .int .i64 (f : Int), .agg #[(Value.slice A1 p.slots.length c1), v2, v3, .bool p.inSc], .int .i64 deep]) Tryz.func76 rfl Tryz.ntmps76 (by simp) hμ hO ?_
    repeat' (first | ((with_reducible show GC _ _ (Code.seq (Code.region 1 _ _) _) _ _ _ _); (apply aY)) | refine KK ?_ | refine NB fun b => ?_ | fail)
    rename_i bn
    obtain ⟨bp, hbp⟩ : ∃ x, x = b := ⟨_, rfl⟩
    rw [← hbp]
    clear hbp
    refine gcs (bY (l' := [(0, .pointer (some ⟨fb, 0, none⟩)), (2, .int .i64 (f : Int)), (4, .int .i64 deep), (6, .pointer (some ⟨bn, 0, none⟩)), (8, .pointer (some ⟨bp, 0, none⟩))]) (L' := ckP fb gm gs n (.slice (some adU) n cc) c i ++ [.inl ⟨bn, 42, 6, idx 0 (aR t (.slice A0 t.kids.length cK))⟩, .inl ⟨bp, 116, 4, idx 0 [(Value.slice A1 p.slots.length c1), v2, v3, .bool p.inSc]⟩]) PU PS ?_)
    dsimp only [List.cons_append, List.nil_append]
    by_cases h1 : deep ≤ 2048
    rotate_left
    · skip
      have hsh : Iq.eO aH (bM ps) t f deep = false := by rw [iS]; simp [h1]
      rw [hsh, if_neg (by simp)] at hR
      subst hR
      repeat' (first | refine KO ?_ | ((with_reducible apply F1 24); exact rfl; exact EN; (exact fun w μc hw hse => hrow w μc hw hse.le)) | refine KI ?_ | refine KG ?_ | fail)
      all_goals (refine aM (l' := [(10, .bool false)]) (L' := ckP fb gm gs n (.slice (some adU) n cc) c i) PU PS ?_; exact bZ hcnt rfl (aB rfl) i rfl rfl hi)
    by_cases h2 : (aH t.op).1 = []
    · have h2n : ofB (aH t.op).1 = ⟨#[]⟩ := by rw [h2]; rfl
      have hsh : Iq.eO aH (bM ps) t f deep = false := by rw [iS]; simp [h2]
      rw [hsh, if_neg (by simp)] at hR
      subst hR
      repeat' (first | refine KO ?_ | ((with_reducible apply F1 24); exact rfl; exact EN; (exact fun w μc hw hse => hrow w μc hw hse.le)) | refine KI ?_ | refine KG ?_ | fail)
      all_goals (refine aM (l' := [(10, .bool false)]) (L' := ckP fb gm gs n (.slice (some adU) n cc) c i) PU PS ?_; exact bZ hcnt rfl (aB rfl) i rfl rfl hi)
    have h2n : ¬ ofB (aH t.op).1 = ⟨#[]⟩ := fun h => h2 (by have := congrArg bl h; rwa [gS] at this)
    cases h3 : Iq.fX (aH t.op).2 (t.kids.map T.op)
    · skip
      have hsh : Iq.eO aH (bM ps) t f deep = false := by rw [iS]; simp [h3]
      rw [hsh, if_neg (by simp)] at hR
      subst hR
      repeat' (first | refine KO ?_ | ((with_reducible apply F1 24); exact rfl; exact EN; (exact fun w μc hw hse => hrow w μc hw hse.le)) | ((with_reducible apply F1 106); exact rfl; exact EN; (exact fun w μc hw hse => vH t.op t.kids _ _ h3 (by omega) w μc hw (hk.mono hse.le) (by omega))) | refine KI ?_ | refine KG ?_ | fail)
      all_goals (refine aM (l' := [(10, .bool false)]) (L' := ckP fb gm gs n (.slice (some adU) n cc) c i) PU PS ?_; exact bZ hcnt rfl (aB rfl) i rfl rfl hi)
    cases h4 : Iq.cT t.op t.s.data.toList
    · skip
      have hsh : Iq.eO aH (bM ps) t f deep = false := by rw [iS]; simp [h4]
      rw [hsh, if_neg (by simp)] at hR
      subst hR
      repeat' (first | refine KO ?_ | ((with_reducible apply F1 24); exact rfl; exact EN; (exact fun w μc hw hse => hrow w μc hw hse.le)) | ((with_reducible apply F1 106); exact rfl; exact EN; (exact fun w μc hw hse => vH t.op t.kids _ _ h3 (by omega) w μc hw (hk.mono hse.le) (by omega))) | ((with_reducible apply F1 107); exact rfl; exact EN; (exact fun w μc hw hse => FJ t _ ho (by omega) _ h4 w μc hw (hmq.mono hse.le))) | refine KI ?_ | refine KG ?_ | fail)
      all_goals (refine aM (l' := [(10, .bool false)]) (L' := ckP fb gm gs n (.slice (some adU) n cc) c i) PU PS ?_; exact bZ hcnt rfl (aB rfl) i rfl rfl hi)
    cases h5 : Iq.cG t.op t.m
    · skip
      have hsh : Iq.eO aH (bM ps) t f deep = false := by rw [iS]; simp [h5]
      rw [hsh, if_neg (by simp)] at hR
      subst hR
      repeat' (first | refine KO ?_ | ((with_reducible apply F1 24); exact rfl; exact EN; (exact fun w μc hw hse => hrow w μc hw hse.le)) | ((with_reducible apply F1 106); exact rfl; exact EN; (exact fun w μc hw hse => vH t.op t.kids _ _ h3 (by omega) w μc hw (hk.mono hse.le) (by omega))) | ((with_reducible apply F1 107); exact rfl; exact EN; (exact fun w μc hw hse => FJ t _ ho (by omega) _ h4 w μc hw (hmq.mono hse.le))) | ((with_reducible apply F1 108); exact rfl; exact EN; (exact fun w μc hw hse => SO t _ ho _ h5 w μc hw)) | refine KI ?_ | refine KG ?_ | fail)
      all_goals (refine aM (l' := [(10, .bool false)]) (L' := ckP fb gm gs n (.slice (some adU) n cc) c i) PU PS ?_; exact bZ hcnt rfl (aB rfl) i rfl rfl hi)
    have hm129 : t.op = 129 → 0 ≤ t.m ∧ t.m ≤ 1 := fun h => aCh (by rw [← h]; exact h5)
    repeat' (first | refine KO ?_ | ((with_reducible apply F1 24); exact rfl; exact EN; (exact fun w μc hw hse => hrow w μc hw hse.le)) | ((with_reducible apply F1 106); exact rfl; exact EN; (exact fun w μc hw hse => vH t.op t.kids _ _ h3 (by omega) w μc hw (hk.mono hse.le) (by omega))) | ((with_reducible apply F1 107); exact rfl; exact EN; (exact fun w μc hw hse => FJ t _ ho (by omega) _ h4 w μc hw (hmq.mono hse.le))) | ((with_reducible apply F1 108); exact rfl; exact EN; (exact fun w μc hw hse => SO t _ ho _ h5 w μc hw)) | refine KI ?_ | refine KG ?_ | fail)
    all_goals try (exfalso; omega)
    have hlo := KH hy
    cases h6 : Iq.bB t.op t.n y.1.loc n
    · skip
      have hsh : Iq.eO aH (bM ps) t f deep = false := by rw [iS, hlo, hfl]; simp [h6]
      rw [hsh, if_neg (by simp)] at hR
      subst hR
      refine bN 30 ([.inl ⟨fb, 86, 4, [(0, .slice (some adU) n cc)]⟩, .inl ⟨bn, 42, 6, idx 0 (aR t (.slice A0 t.kids.length cK))⟩, .inl ⟨bp, 116, 4, idx 0 [(Value.slice A1 p.slots.length c1), v2, v3, .bool p.inSc]⟩]) (by kernel_rfl) rfl PS ?_
      all_goals (first | refine DD 0 ?_ | fail)
      all_goals refine DD 1 ?_
      all_goals refine DD 2 ?_
      all_goals (first | refine D1 3 ?_ | fail)
      all_goals (first | refine D1 4 ?_ | fail)
      all_goals (first | refine DD 5 ?_ | fail)
      all_goals refine DD 6 ?_
      all_goals (first | (refine DV (k := 7) (b := by exact U1 f) (c := ?_)) | fail)
      all_goals (first | (refine DV (k := 8) (b := by exact U4 hmU) (c := ?_)) | fail)
      all_goals refine DD 9 ?_
      all_goals refine DD 10 ?_
      all_goals (first | refine D1 11 ?_ | fail)
      all_goals (first | refine D1 12 ?_ | fail)
      all_goals (first | refine DD 13 ?_ | fail)
      all_goals (first | refine D1 14 ?_ | fail)
      all_goals ((refine D3 15 ?_; refine D5 ?_; (first | ((with_reducible apply F1 109); exact rfl; exact EN; (exact fun w μc hw hse => vG t _ ho y.1 y.2 hyo n _ h6 (by omega) (by omega) w μc hw)) | fail); refine D9S ?_))
      all_goals refine DD 16 ?_
      all_goals refine DD 17 ?_
      all_goals (try (refine D7 18 ?_; (repeat' (refine KO ?_))))
      all_goals (first | refine D1 18 ?_ | fail)
      all_goals (refine D3 19 (D6 ?_))
      all_goals refine DD 20 ?_
      all_goals refine DD 21 ?_
      all_goals refine DD 22 ?_
      all_goals (try (refine D7 23 ?_; (repeat' (first | fail))))
      all_goals refine DD 23 ?_
      all_goals (first | refine D1 24 ?_ | fail)
      all_goals refine DD 25 ?_
      all_goals (first | refine D1 26 ?_ | fail)
      all_goals (refine D3 27 (D6 ?_))
      all_goals refine DD 28 ?_
      all_goals refine DD 29 ?_
      all_goals refine D8 ?_
      all_goals repeat' (first | refine KK ?_ | fail)
      all_goals (refine aM (l' := [(10, .bool false)]) (L' := ckP fb gm gs n (.slice (some adU) n cc) c i) PU PS ?_; exact bZ hcnt rfl (aB rfl) i rfl rfl hi)
    cases h7 : Iq.eW t.op t.m (t.kids.map T.op)
    · skip
      have hsh : Iq.eO aH (bM ps) t f deep = false := by rw [iS, hlo, hfl]; simp [h7]
      rw [hsh, if_neg (by simp)] at hR
      subst hR
      refine bN 30 ([.inl ⟨fb, 86, 4, [(0, .slice (some adU) n cc)]⟩, .inl ⟨bn, 42, 6, idx 0 (aR t (.slice A0 t.kids.length cK))⟩, .inl ⟨bp, 116, 4, idx 0 [(Value.slice A1 p.slots.length c1), v2, v3, .bool p.inSc]⟩]) (by kernel_rfl) rfl PS ?_
      all_goals (first | refine DD 0 ?_ | fail)
      all_goals refine DD 1 ?_
      all_goals refine DD 2 ?_
      all_goals (first | refine D1 3 ?_ | fail)
      all_goals (first | refine D1 4 ?_ | fail)
      all_goals (first | refine DD 5 ?_ | fail)
      all_goals refine DD 6 ?_
      all_goals (first | (refine DV (k := 7) (b := by exact U1 f) (c := ?_)) | fail)
      all_goals (first | (refine DV (k := 8) (b := by exact U4 hmU) (c := ?_)) | fail)
      all_goals refine DD 9 ?_
      all_goals refine DD 10 ?_
      all_goals (first | refine D1 11 ?_ | fail)
      all_goals (first | refine D1 12 ?_ | fail)
      all_goals (first | refine DD 13 ?_ | fail)
      all_goals (first | refine D1 14 ?_ | fail)
      all_goals ((refine D3 15 ?_; refine D5 ?_; (first | ((with_reducible apply F1 109); exact rfl; exact EN; (exact fun w μc hw hse => vG t _ ho y.1 y.2 hyo n _ h6 (by omega) (by omega) w μc hw)) | fail); refine D9S ?_))
      all_goals refine DD 16 ?_
      all_goals refine DD 17 ?_
      all_goals (try (refine D7 18 ?_; (repeat' (refine KO ?_))))
      all_goals (first | refine DD 18 ?_ | fail)
      all_goals ((refine D3 19 ?_; refine D5 ?_; (first | ((with_reducible apply F1 110); exact rfl; exact EN; (exact fun w μc hw hse => FN t _ _ h7 w μc hw (hk.mono hse.le) (by omega) hm129)) | fail); refine D9S ?_))
      all_goals refine DD 20 ?_
      all_goals refine DD 21 ?_
      all_goals refine DD 22 ?_
      all_goals (try (refine D7 23 ?_; (repeat' (refine KO ?_))))
      all_goals refine DD 23 ?_
      all_goals (first | refine D1 24 ?_ | fail)
      all_goals refine DD 25 ?_
      all_goals (first | refine D1 26 ?_ | fail)
      all_goals (refine D3 27 (D6 ?_))
      all_goals refine DD 28 ?_
      all_goals refine DD 29 ?_
      all_goals refine D8 ?_
      all_goals repeat' (first | refine KK ?_ | fail)
      all_goals (refine aM (l' := [(10, .bool false)]) (L' := ckP fb gm gs n (.slice (some adU) n cc) c i) PU PS ?_; exact bZ hcnt rfl (aB rfl) i rfl rfl hi)
    have hsh : Iq.eO aH (bM ps) t f deep = true := by rw [iS, hlo, hfl]; simp [h1, h2, h3, h4, h5, h6, h7]
    rw [hsh, if_pos rfl] at hR
    have hn' : Iq.bB t.op t.n (Iq.fN (bM ps) f) (bM ps).length = true := by rw [hlo, hfl]; exact h6
    have hst := fun (w2 : World) (hw2 : MOk μ w2) (hO2 : Go.Vcg.Own μ (ckP fb gm gs n (.slice (some adU) n cc) c i) w2) => FK ps (some adU) cc n f t (.slice A0 t.kids.length cK) p _ v2 v3 deep c i fb gm gs w2 μ hw2 hO2 hU hf ho hp0 hi hB hP (by omega) hn'
    have hcb := zN hfl hB hP h1 hn'
    obtain ⟨S, hS⟩ : ∃ S, S = Iq.cA (bM ps) f t.op t.n t.m p c := ⟨_, rfl⟩
    rw [← hS] at hst hR hcb
    obtain ⟨s1, b1⟩ := S
    clear hS
    dsimp only at hst hR hcb
    obtain ⟨hB1, hcm1⟩ := hcb
    cases b1
    · rw [if_neg (by simp)] at hR
      subst hR
      refine bN 30 ([.inl ⟨fb, 86, 4, [(0, .slice (some adU) n cc)]⟩, .inl ⟨bn, 42, 6, idx 0 (aR t (.slice A0 t.kids.length cK))⟩, .inl ⟨bp, 116, 4, idx 0 [(Value.slice A1 p.slots.length c1), v2, v3, .bool p.inSc]⟩]) (by kernel_rfl) rfl PS ?_
      all_goals (first | refine DD 0 ?_ | fail)
      all_goals refine DD 1 ?_
      all_goals refine DD 2 ?_
      all_goals (first | refine D1 3 ?_ | fail)
      all_goals (first | refine D1 4 ?_ | fail)
      all_goals (first | refine DD 5 ?_ | fail)
      all_goals refine DD 6 ?_
      all_goals (first | (refine DV (k := 7) (b := by exact U1 f) (c := ?_)) | fail)
      all_goals (first | (refine DV (k := 8) (b := by exact U4 hmU) (c := ?_)) | fail)
      all_goals refine DD 9 ?_
      all_goals refine DD 10 ?_
      all_goals (first | refine D1 11 ?_ | fail)
      all_goals (first | refine D1 12 ?_ | fail)
      all_goals (first | refine DD 13 ?_ | fail)
      all_goals (first | refine D1 14 ?_ | fail)
      all_goals ((refine D3 15 ?_; refine D5 ?_; (((with_reducible apply F1 109); exact rfl; exact EN; (exact fun w μc hw hse => vG t _ ho y.1 y.2 hyo n _ h6 (by omega) (by omega) w μc hw))); refine D9S ?_))
      all_goals refine DD 16 ?_
      all_goals refine DD 17 ?_
      all_goals (try (refine D7 18 ?_; (repeat' (refine KO ?_))))
      all_goals (first | refine DD 18 ?_ | fail)
      all_goals ((refine D3 19 ?_; refine D5 ?_; (((with_reducible apply F1 110); exact rfl; exact EN; (exact fun w μc hw hse => FN t _ _ h7 w μc hw (hk.mono hse.le) (by omega) hm129))); refine D9S ?_))
      all_goals refine DD 20 ?_
      all_goals refine DD 21 ?_
      all_goals refine DD 22 ?_
      all_goals (try (refine D7 23 ?_; (repeat' (refine KO ?_))))
      all_goals refine DD 23 ?_
      all_goals (first | refine DD 24 ?_ | fail)
      all_goals refine DD 25 ?_
      all_goals (first | refine DD 26 ?_ | fail)
      all_goals ((refine D3 27 ?_; refine D5 ?_; ((refine CF 111 ?_; (with_reducible apply aA (Ls := fun i2 => ckP fb gm gs n (.slice (some adU) n cc) s1 i2) (Post := fW s1 false) 4); (iterate 3 exact rfl); ((with_reducible apply cC); kernel_rfl; (iterate 4 exact rfl)); exact rfl; (exact hst); (rintro v5 μ1 i1 hle1 ⟨rfl, hi1⟩); (dsimp only [List.cons_append, List.nil_append]))); refine D9S ?_))
      all_goals refine DD 28 ?_
      all_goals refine DD 29 ?_
      all_goals refine D8 ?_
      all_goals repeat' (first | refine KK ?_ | fail)
      all_goals (refine aM (l' := [(10, .bool false)]) (L' := ckP fb gm gs n (.slice (some adU) n cc) s1 i1) PU PS ?_; exact bZ hcnt rfl (aB rfl) i1 rfl rfl hi1)
    rw [if_pos rfl] at hR
    refine bN 30 ([.inl ⟨fb, 86, 4, [(0, .slice (some adU) n cc)]⟩, .inl ⟨bn, 42, 6, idx 0 (aR t (.slice A0 t.kids.length cK))⟩, .inl ⟨bp, 116, 4, idx 0 [(Value.slice A1 p.slots.length c1), v2, v3, .bool p.inSc]⟩]) (by kernel_rfl) rfl PS ?_
    all_goals (first | refine DD 0 ?_ | fail)
    all_goals refine DD 1 ?_
    all_goals refine DD 2 ?_
    all_goals (first | refine D1 3 ?_ | fail)
    all_goals (first | refine D1 4 ?_ | fail)
    all_goals (first | refine DD 5 ?_ | fail)
    all_goals refine DD 6 ?_
    all_goals (first | (refine DV (k := 7) (b := by exact U1 f) (c := ?_)) | fail)
    all_goals (first | (refine DV (k := 8) (b := by exact U4 hmU) (c := ?_)) | fail)
    all_goals refine DD 9 ?_
    all_goals refine DD 10 ?_
    all_goals (first | refine D1 11 ?_ | fail)
    all_goals (first | refine D1 12 ?_ | fail)
    all_goals (first | refine DD 13 ?_ | fail)
    all_goals (first | refine D1 14 ?_ | fail)
    all_goals ((refine D3 15 ?_; refine D5 ?_; (((with_reducible apply F1 109); exact rfl; exact EN; (exact fun w μc hw hse => vG t _ ho y.1 y.2 hyo n _ h6 (by omega) (by omega) w μc hw))); refine D9S ?_))
    all_goals refine DD 16 ?_
    all_goals refine DD 17 ?_
    all_goals (try (refine D7 18 ?_; (repeat' (refine KO ?_))))
    all_goals (first | refine DD 18 ?_ | fail)
    all_goals ((refine D3 19 ?_; refine D5 ?_; (((with_reducible apply F1 110); exact rfl; exact EN; (exact fun w μc hw hse => FN t _ _ h7 w μc hw (hk.mono hse.le) (by omega) hm129))); refine D9S ?_))
    all_goals refine DD 20 ?_
    all_goals refine DD 21 ?_
    all_goals refine DD 22 ?_
    all_goals (try (refine D7 23 ?_; (repeat' (refine KO ?_))))
    all_goals refine DD 23 ?_
    all_goals (first | refine DD 24 ?_ | fail)
    all_goals refine DD 25 ?_
    all_goals (first | refine DD 26 ?_ | fail)
    all_goals ((refine D3 27 ?_; refine D5 ?_; ((refine CF 111 ?_; (with_reducible apply aA (Ls := fun i2 => ckP fb gm gs n (.slice (some adU) n cc) s1 i2) (Post := fW s1 true) 4); (iterate 3 exact rfl); ((with_reducible apply cC); kernel_rfl; (iterate 4 exact rfl)); exact rfl; (exact hst); (rintro v5 μ1 i1 hle1 ⟨rfl, hi1⟩); (dsimp only [List.cons_append, List.nil_append]))); refine D9S ?_))
    all_goals refine DD 28 ?_
    all_goals refine DD 29 ?_
    all_goals refine D8 ?_
    all_goals repeat' (first | ((with_reducible show GC _ _ (Code.seq (Code.seq (Code.region 6 _ _) _) _) _ _ _ _); (apply aY)) | refine KK ?_ | fail)
    all_goals refine gcs (bY (l' := [(0, .pointer (some ⟨fb, 0, none⟩)), (2, .int .i64 (f : Int)), (4, .int .i64 deep), (6, .pointer (some ⟨bn, 0, none⟩)), (8, .pointer (some ⟨bp, 0, none⟩))]) (L' := ckP fb gm gs n (.slice (some adU) n cc) s1 i1 ++ [.inl ⟨bn, 42, 6, idx 0 (aR t (.slice A0 t.kids.length cK))⟩, .inl ⟨bp, 116, 4, idx 0 [(Value.slice A1 p.slots.length c1), v2, v3, .bool p.inSc]⟩]) PU PS ?_)
    all_goals dsimp only [List.cons_append, List.nil_append]
    refine cM (ι := Mem × Value × Value) (fun y => MLe μ1 y.1 ∧ PlV y.1 (Iq.inside t.op t.n p) y.2.1 y.2.2 v3) (fun y => y.1) (fun _ => [(0, .pointer (some ⟨fb, 0, none⟩)), (2, .int .i64 (f : Int)), (4, .int .i64 deep), (6, .pointer (some ⟨bn, 0, none⟩)), (8, .pointer (some ⟨bp, 0, none⟩))]) (fun y => ckP fb gm gs n (.slice (some adU) n cc) s1 i1 ++ [.inl ⟨bn, 42, 6, idx 0 (aR t (.slice A0 t.kids.length cK))⟩, .inl ⟨bp, 116, 4, idx 0 [y.2.1, y.2.2, v3, .bool (Iq.inside t.op t.n p).inSc]⟩]) ?_ ?_
    · by_cases hq1 : t.op = 164
      · have hin : Iq.inside t.op t.n p = { p with breaks := p.breaks ++ [t.n] } := by unfold Iq.inside; rw [if_pos hq1]
        rw [hin]
        repeat' (first | refine KK ?_ | fail)
        all_goals try (exfalso; omega)
        have e1 := eG p.breaks
        have e2 := gO p.breaks
        refine bN 9 ([.inl ⟨bn, 42, 6, idx 0 (aR t (.slice A0 t.kids.length cK))⟩]) (by kernel_rfl) rfl PS ?_
        all_goals refine DD 0 ?_
        all_goals refine DD 3 ?_
        all_goals refine DD 4 ?_
        refine bT 1 5 (by kernel_rfl) ?dr5_1 ?dr5_5
        case' dr5_1 =>
          (((with_reducible apply bJ); (iterate 4 exact rfl); (((with_reducible apply iQ); exact rfl; (repeat first | with_reducible exact bG | with_reducible apply dJ); exact rfl))))
          refine bT 2 5 (by kernel_rfl) ?dr6_2 ?dr6_5
          case' dr6_2 =>
            ((refine D5 ?_; (with_reducible apply F3 112); exact rfl; exact EN; (exact fun w μc hw hse => gC _ p.breaks w μc hw ((hp0.2.1).mono (hle1.trans hse.le)) (by omega)); intro vr; refine D9S ?_))
            all_goals ((refine D3 5 ?_; refine D5 ?_; refine NB fun b => ?_; refine D9S ?_))
            all_goals ((refine D3 6 ?_; refine D5 ?_; refine AI (k := fun g cap hcap => ?_); refine D9S ?_))
            all_goals refine DD 7 ?_
            all_goals ((refine D3 8 ?_; refine D5 ?_; refine Y0 ?_; refine D9S ?_))
            all_goals refine D8 ?_
          case' dr6_5 =>
            ((refine D5 ?_; refine NB fun b => ?_; refine D9S ?_))
            all_goals ((refine D3 2 ?_; refine D5 ?_; (with_reducible apply F3 112); exact rfl; exact EN; (exact fun w μc hw hse => gC _ p.breaks w μc hw ((hp0.2.1).mono (hle1.trans hse.le)) (by omega)); intro vr; refine D9S ?_))
            all_goals ((refine D3 6 ?_; refine D5 ?_; refine AI (k := fun g cap hcap => ?_); refine D9S ?_))
            all_goals refine DD 7 ?_
            all_goals ((refine D3 8 ?_; refine D5 ?_; refine Y0 ?_; refine D9S ?_))
            all_goals refine D8 ?_
        case' dr5_5 =>
          ((refine D5 ?_; refine NB fun b => ?_; refine D9S ?_))
          all_goals ((refine D3 1 ?_; (with_reducible apply bJ); (iterate 4 exact rfl); (((with_reducible apply iQ); exact rfl; (repeat first | with_reducible exact bG | with_reducible apply dJ); exact rfl))))
          all_goals ((refine D3 2 ?_; refine D5 ?_; (with_reducible apply F3 112); exact rfl; exact EN; (exact fun w μc hw hse => gC _ p.breaks w μc hw ((hp0.2.1).mono (hle1.trans hse.le)) (by omega)); intro vr; refine D9S ?_))
          all_goals ((refine D3 6 ?_; refine D5 ?_; refine AI (k := fun g cap hcap => ?_); refine D9S ?_))
          all_goals refine DD 7 ?_
          all_goals ((refine D3 8 ?_; refine D5 ?_; refine Y0 ?_; refine D9S ?_))
          all_goals refine D8 ?_
        all_goals repeat' (first | refine KK ?_ | fail)
        all_goals first
          | (refine gF rfl ?_; intro μ4 hle4 hsh4; have hsh5 := kI hsh4; exact J1 (μ4, (Value.slice A1 p.slots.length c1), _) ⟨hle4, hp0.1.mono (hle1.trans hle4), bK.eD hsh4 (by simp) (by rw [List.flatMap_append]; rfl), hp0.2.2.mono (hle1.trans hle4)⟩)
          | (refine gE rfl ?_; intro μ4 hle4 hsh4; have hsh5 := kI hsh4; exact J1 (μ4, (Value.slice A1 p.slots.length c1), _) ⟨hle4, hp0.1.mono (hle1.trans hle4), bK.eD hsh4 (by simp) (by rw [List.flatMap_append]; rfl), hp0.2.2.mono (hle1.trans hle4)⟩)
          | (refine gq_share_2 rfl ?_; intro μ4 hle4 hsh4; have hsh5 := kI hsh4; exact J1 (μ4, (Value.slice A1 p.slots.length c1), _) ⟨hle4, hp0.1.mono (hle1.trans hle4), bK.eD hsh4 (by simp) (by rw [List.flatMap_append]; rfl), hp0.2.2.mono (hle1.trans hle4)⟩)
      by_cases hq2 : t.op = 170
      · have hin : Iq.inside t.op t.n p = { p with slots := t.n :: p.slots, inSc := true } := by unfold Iq.inside; rw [if_neg hq1, if_pos hq2]
        rw [hin]
        have e1 := eG p.slots
        have e2 := gO p.slots
        have hS1m := hS1.mono hle1
        repeat' (first | refine KO ?_ | ((with_reducible show G _ _ _ _ (Oper.mk _ (Op.call (Call.mk (Callee.builtin Builtin.append) _ _)) _ _ _ _ :: _) _ _ _); (with_reducible apply aAl); exact rfl; (with_reducible apply lI); (iterate 3 exact rfl); (repeat with_reducible exact cF); (iterate 6 exact rfl); ((with_reducible apply fZ); exact rfl; exact hS1m; simp); omega; (assumption); omega; omega; intro v; (with_reducible apply tV 0); exact rfl; omega; (rintro g cap rfl hcap)) | refine KI ?_ | refine NB fun b => ?_ | fail)
        all_goals try (exfalso; omega)
        all_goals repeat' (first | fail)
        all_goals first
          | (refine gF rfl ?_; intro μ4 hle4 hsh4; have hsh5 := kI hsh4; exact J1 (μ4, _, v2) ⟨hle4, bK.eD hsh4 (by simp; omega) rfl, hp0.2.1.mono (hle1.trans hle4), hp0.2.2.mono (hle1.trans hle4)⟩)
          | (refine gE rfl ?_; intro μ4 hle4 hsh4; have hsh5 := kI hsh4; exact J1 (μ4, _, v2) ⟨hle4, bK.eD hsh4 (by simp; omega) rfl, hp0.2.1.mono (hle1.trans hle4), hp0.2.2.mono (hle1.trans hle4)⟩)
          | (refine gq_share_2 rfl ?_; intro μ4 hle4 hsh4; have hsh5 := kI hsh4; exact J1 (μ4, _, v2) ⟨hle4, bK.eD hsh4 (by simp; omega) rfl, hp0.2.1.mono (hle1.trans hle4), hp0.2.2.mono (hle1.trans hle4)⟩)
      have hin : Iq.inside t.op t.n p = p := by unfold Iq.inside; rw [if_neg hq1, if_neg hq2]
      rw [hin]
      repeat' (first | refine KK ?_ | fail)
      all_goals try (exfalso; omega)
      all_goals exact J1 (μ1, (Value.slice A1 p.slots.length c1), v2) ⟨MLe.refl _, hp0.mono hle1⟩
    rintro ⟨μ2, w1, w2⟩ ⟨hle2, hp2⟩
    dsimp only [List.cons_append, List.nil_append] at hle2 hp2 ⊢
    have hle12 := hle1.trans hle2
    have ow1 := hp2.1.one
    have ow2 := hp2.2.1.one
    obtain ⟨p2, hp2e⟩ : ∃ p2, p2 = Iq.inside t.op t.n p := ⟨_, rfl⟩
    have hkid2 := fun (j : Nat) (c' : Iq.CkS) (h : Iq.cnt c.met ≤ Iq.cnt c'.met) => SP (m := t.m) j hP hn' h5 h
    rw [← hp2e] at hp2 hR hkid2 ⊢
    clear hp2e
    repeat' (first | refine KK ?_ | fail)
    refine aX (ι := Nat × Iq.CkS × CIx × Mem) (fun q => q.1 ≤ t.kids.length ∧ MLe μ2 q.2.2.2 ∧ CkI q.2.2.2 q.2.1 q.2.2.1 ∧ CkB n q.2.1 ∧ Iq.cnt c.met ≤ Iq.cnt q.2.1.met ∧ Iq.gP aH (bM ps) f t.op t.n t.m p2 deep (t.kids.drop q.1) q.1 q.2.1 = R) (fun q => t.kids.length - q.1) (fun q => q.2.2.2) (fun q => [(100, .int .i64 (q.1 : Int)), (99, .int .i64 (t.kids.length : Int)), (98, .slice A0 t.kids.length cK), (0, .pointer (some ⟨fb, 0, none⟩)), (2, .int .i64 (f : Int)), (4, .int .i64 deep), (6, .pointer (some ⟨bn, 0, none⟩)), (8, .pointer (some ⟨bp, 0, none⟩))]) (fun q => ckP fb gm gs n (.slice (some adU) n cc) q.2.1 q.2.2.1 ++ [.inl ⟨bn, 42, 6, idx 0 (aR t (.slice A0 t.kids.length cK))⟩, .inl ⟨bp, 116, 4, idx 0 [w1, w2, v3, .bool p2.inSc]⟩]) (0, s1, i1, μ2) ⟨by omega, MLe.refl _, hi1.mono hle2, hB1, hcm1, hR⟩ (fun a w hs => hs.sel PU PS) ?_
    rintro ⟨k, ck, ik, μk⟩ ⟨hk1, hlek, hik, hBk, hcmk, hRk⟩
    dsimp only [List.cons_append, List.nil_append] at hk1 hlek hik hBk hcmk hRk ⊢
    by_cases hlt : k < t.kids.length
    · have hkk : t.kids[k]? = some t.kids[k] := List.getElem?_eq_getElem hlt
      have hksz := T.oK hkk
      have hkall := hall.kid (List.mem_of_getElem? hkk)
      generalize t.kids[k] = kd at hkk hksz hkall
      obtain ⟨ad, x, rfl, hm0, hox, hkx⟩ := cL k kd hkk
      rw [lV hkk, yS] at hRk
      have hlek2 := hle12.trans hlek
      have hm := hm0.mono hlek2
      have hpk := hp2.mono hlek
      repeat' (first | ((with_reducible show GC _ _ (Code.seq (Code.seq (Code.region 16 _ _) _) _) _ _ _ _); (apply aY)) | refine KO ?_ | (refine KV (b := by first | exact U1 k | exact U4 hm) (c := ?_)) | refine KI ?_ | refine NB fun b => ?_ | fail)
      all_goals try (exfalso; omega)
      rename_i bk
      obtain ⟨bq, hbq⟩ : ∃ x, x = b := ⟨_, rfl⟩
      rw [← hbq]
      clear hbq
      refine gcs (bY (l' := [(100, .int .i64 (k : Int)), (99, .int .i64 (t.kids.length : Int)), (98, .slice (some ad) t.kids.length cK), (13, .int .i64 (k : Int)), (14, .pointer (some ⟨bk, 0, none⟩)), (15, .pointer (some ⟨bq, 0, none⟩)), (0, .pointer (some ⟨fb, 0, none⟩)), (2, .int .i64 (f : Int)), (4, .int .i64 deep), (6, .pointer (some ⟨bn, 0, none⟩)), (8, .pointer (some ⟨bp, 0, none⟩))]) (L' := ckP fb gm gs n (.slice (some adU) n cc) ck ik ++ [.inl ⟨bn, 42, 6, idx 0 (aR t (.slice (some ad) t.kids.length cK))⟩, .inl ⟨bp, 116, 4, idx 0 [w1, w2, v3, .bool p2.inSc]⟩, .inl ⟨bk, 42, 6, idx 0 (aR kd x)⟩, .inl ⟨bq, 116, 4, idx 0 [w1, w2, v3, .bool p2.inSc]⟩]) PU PS ?_)
      dsimp only [List.cons_append, List.nil_append]
      refine cM (ι := Mem × Value × Value) (fun y => MLe μk y.1 ∧ PlV y.1 (Iq.dN t.op t.n t.m p2 k) w1 y.2.1 y.2.2) (fun y => y.1) (fun _ => [(100, .int .i64 (k : Int)), (99, .int .i64 (t.kids.length : Int)), (98, .slice (some ad) t.kids.length cK), (13, .int .i64 (k : Int)), (14, .pointer (some ⟨bk, 0, none⟩)), (15, .pointer (some ⟨bq, 0, none⟩)), (0, .pointer (some ⟨fb, 0, none⟩)), (2, .int .i64 (f : Int)), (4, .int .i64 deep), (6, .pointer (some ⟨bn, 0, none⟩)), (8, .pointer (some ⟨bp, 0, none⟩))]) (fun y => ckP fb gm gs n (.slice (some adU) n cc) ck ik ++ [.inl ⟨bn, 42, 6, idx 0 (aR t (.slice (some ad) t.kids.length cK))⟩, .inl ⟨bp, 116, 4, idx 0 [w1, w2, v3, .bool p2.inSc]⟩, .inl ⟨bk, 42, 6, idx 0 (aR kd x)⟩, .inl ⟨bq, 116, 4, idx 0 [w1, y.2.1, y.2.2, .bool p2.inSc]⟩]) ?_ ?_
      · by_cases hq : t.op = 163 ∧ k = 1
        · have hak : Iq.dN t.op t.n t.m p2 k = { p2 with breaks := p2.breaks ++ [t.n], agains := p2.agains ++ [t.m] } := by unfold Iq.dN; rw [if_pos hq]
          rw [hak]
          obtain ⟨hq1, hq2⟩ := hq
          have hq3 : (k : Int) = 1 := by omega
          have e1 := eG p2.breaks
          have e2 := gO p2.breaks
          have e3 := eG p2.agains
          have e4 := gO p2.agains
          have hb1 := (hkid2 0 c (Nat.le_refl _)).b1
          have hb2 := (hkid2 0 c (Nat.le_refl _)).b2
          have hak0 : Iq.dN t.op t.n t.m p2 0 = p2 := by unfold Iq.dN; rw [if_neg (by omega)]
          rw [hak0] at hb1 hb2
          repeat' (first | ((with_reducible show GC _ _ (Code.seq (Code.region 17 _ _) _) _ _ _ _); (apply aY)) | refine KK ?_ | refine KG ?_ | fail)
          all_goals try (exfalso; omega)
          refine gcs (bY (l' := [(100, .int .i64 (k : Int)), (99, .int .i64 (t.kids.length : Int)), (98, .slice (some ad) t.kids.length cK), (13, .int .i64 (k : Int)), (14, .pointer (some ⟨bk, 0, none⟩)), (15, .pointer (some ⟨bq, 0, none⟩)), (0, .pointer (some ⟨fb, 0, none⟩)), (2, .int .i64 (f : Int)), (4, .int .i64 deep), (6, .pointer (some ⟨bn, 0, none⟩)), (8, .pointer (some ⟨bp, 0, none⟩))]) (L' := ckP fb gm gs n (.slice (some adU) n cc) ck ik ++ [.inl ⟨bn, 42, 6, idx 0 (aR t (.slice (some ad) t.kids.length cK))⟩, .inl ⟨bp, 116, 4, idx 0 [w1, w2, v3, .bool p2.inSc]⟩, .inl ⟨bk, 42, 6, idx 0 (aR kd x)⟩, .inl ⟨bq, 116, 4, idx 0 [w1, w2, v3, .bool p2.inSc]⟩]) PU PS ?_)
          dsimp only [List.cons_append, List.nil_append]
          refine cM (ι := Mem × Value) (fun y => MLe μk y.1 ∧ bK y.1 y.2 (p2.breaks ++ [t.n])) (fun y => y.1) (fun _ => [(100, .int .i64 (k : Int)), (99, .int .i64 (t.kids.length : Int)), (98, .slice (some ad) t.kids.length cK), (13, .int .i64 (k : Int)), (14, .pointer (some ⟨bk, 0, none⟩)), (15, .pointer (some ⟨bq, 0, none⟩)), (0, .pointer (some ⟨fb, 0, none⟩)), (2, .int .i64 (f : Int)), (4, .int .i64 deep), (6, .pointer (some ⟨bn, 0, none⟩)), (8, .pointer (some ⟨bp, 0, none⟩))]) (fun y => ckP fb gm gs n (.slice (some adU) n cc) ck ik ++ [.inl ⟨bn, 42, 6, idx 0 (aR t (.slice (some ad) t.kids.length cK))⟩, .inl ⟨bp, 116, 4, idx 0 [w1, w2, v3, .bool p2.inSc]⟩, .inl ⟨bk, 42, 6, idx 0 (aR kd x)⟩, .inl ⟨bq, 116, 4, idx 0 [w1, y.2, v3, .bool p2.inSc]⟩]) ?_ ?_
          · refine bN 9 ([.inl ⟨bn, 42, 6, idx 0 (aR t (.slice (some ad) t.kids.length cK))⟩, .inl ⟨bp, 116, 4, idx 0 [w1, w2, v3, .bool p2.inSc]⟩]) (by kernel_rfl) rfl PS ?_
            all_goals refine DD 0 ?_
            all_goals refine DD 1 ?_
            all_goals refine DD 3 ?_
            all_goals refine DD 4 ?_
            refine bT 2 5 (by kernel_rfl) ?dr7_2 ?dr7_5
            case' dr7_2 =>
              ((refine D5 ?_; (with_reducible apply F3 112); exact rfl; exact EN; (exact fun w μc hw hse => gC _ p2.breaks w μc hw ((hpk.2.1).mono hse.le) (by omega)); intro vr; refine D9S ?_))
              all_goals ((refine D3 5 ?_; refine D5 ?_; refine NB fun b => ?_; refine D9S ?_))
              all_goals ((refine D3 6 ?_; refine D5 ?_; refine AI (k := fun g cap hcap => ?_); refine D9S ?_))
              all_goals refine DD 7 ?_
              all_goals ((refine D3 8 ?_; refine D5 ?_; refine Y0 ?_; refine D9S ?_))
              all_goals refine D8 ?_
            case' dr7_5 =>
              ((refine D5 ?_; refine NB fun b => ?_; refine D9S ?_))
              all_goals ((refine D3 2 ?_; refine D5 ?_; (with_reducible apply F3 112); exact rfl; exact EN; (exact fun w μc hw hse => gC _ p2.breaks w μc hw ((hpk.2.1).mono hse.le) (by omega)); intro vr; refine D9S ?_))
              all_goals ((refine D3 6 ?_; refine D5 ?_; refine AI (k := fun g cap hcap => ?_); refine D9S ?_))
              all_goals refine DD 7 ?_
              all_goals ((refine D3 8 ?_; refine D5 ?_; refine Y0 ?_; refine D9S ?_))
              all_goals refine D8 ?_
            all_goals repeat' (first | fail)
            all_goals first
              | (refine gF rfl ?_; intro μ4 hle4 hsh4; have hsh5 := kI hsh4; exact J1 (μ4, _) ⟨hle4, bK.eD hsh4 (by simp) (by rw [List.flatMap_append]; rfl)⟩)
              | (refine gE rfl ?_; intro μ4 hle4 hsh4; have hsh5 := kI hsh4; exact J1 (μ4, _) ⟨hle4, bK.eD hsh4 (by simp) (by rw [List.flatMap_append]; rfl)⟩)
              | (refine gq_share_2 rfl ?_; intro μ4 hle4 hsh4; have hsh5 := kI hsh4; exact J1 (μ4, _) ⟨hle4, bK.eD hsh4 (by simp) (by rw [List.flatMap_append]; rfl)⟩)
          rintro ⟨μ5, w5⟩ ⟨hle5, hv5⟩
          dsimp only [List.cons_append, List.nil_append] at hle5 hv5 ⊢
          have ow5 := hv5.one
          refine bN 9 ([.inl ⟨bn, 42, 6, idx 0 (aR t (.slice (some ad) t.kids.length cK))⟩, .inl ⟨bp, 116, 4, idx 0 [w1, w2, v3, .bool p2.inSc]⟩]) (by kernel_rfl) rfl PS ?_
          all_goals refine DD 0 ?_
          all_goals refine DD 1 ?_
          all_goals refine DD 3 ?_
          all_goals refine DD 4 ?_
          refine bT 2 5 (by kernel_rfl) ?dr8_2 ?dr8_5
          case' dr8_2 =>
            ((refine D5 ?_; (with_reducible apply F3 112); exact rfl; exact EN; (exact fun w μc hw hse => gC _ p2.agains w μc hw (((hpk.2.2.mono hle5)).mono hse.le) (by omega)); intro vr; refine D9S ?_))
            all_goals ((refine D3 5 ?_; refine D5 ?_; refine NB fun b => ?_; refine D9S ?_))
            all_goals ((refine D3 6 ?_; refine D5 ?_; refine AI (k := fun g cap hcap => ?_); refine D9S ?_))
            all_goals refine DD 7 ?_
            all_goals ((refine D3 8 ?_; refine D5 ?_; refine Y0 ?_; refine D9S ?_))
            all_goals refine D8 ?_
          case' dr8_5 =>
            ((refine D5 ?_; refine NB fun b => ?_; refine D9S ?_))
            all_goals ((refine D3 2 ?_; refine D5 ?_; (with_reducible apply F3 112); exact rfl; exact EN; (exact fun w μc hw hse => gC _ p2.agains w μc hw (((hpk.2.2.mono hle5)).mono hse.le) (by omega)); intro vr; refine D9S ?_))
            all_goals ((refine D3 6 ?_; refine D5 ?_; refine AI (k := fun g cap hcap => ?_); refine D9S ?_))
            all_goals refine DD 7 ?_
            all_goals ((refine D3 8 ?_; refine D5 ?_; refine Y0 ?_; refine D9S ?_))
            all_goals refine D8 ?_
          all_goals repeat' (first | fail)
          all_goals first
            | (refine gF rfl ?_; intro μ4 hle4 hsh4; have hsh5 := kI hsh4; exact J1 (μ4, w5, _) ⟨hle5.trans hle4, hpk.1.mono (hle5.trans hle4), hv5.mono hle4, bK.eD hsh4 (by simp) (by rw [List.flatMap_append]; rfl)⟩)
            | (refine gE rfl ?_; intro μ4 hle4 hsh4; have hsh5 := kI hsh4; exact J1 (μ4, w5, _) ⟨hle5.trans hle4, hpk.1.mono (hle5.trans hle4), hv5.mono hle4, bK.eD hsh4 (by simp) (by rw [List.flatMap_append]; rfl)⟩)
            | (refine gq_share_2 rfl ?_; intro μ4 hle4 hsh4; have hsh5 := kI hsh4; exact J1 (μ4, w5, _) ⟨hle5.trans hle4, hpk.1.mono (hle5.trans hle4), hv5.mono hle4, bK.eD hsh4 (by simp) (by rw [List.flatMap_append]; rfl)⟩)
        · have hak : Iq.dN t.op t.n t.m p2 k = p2 := by unfold Iq.dN; rw [if_neg hq]
          rw [hak]
          have hq3 : t.op = 163 → ¬ (k : Int) = 1 := fun h h2 => hq ⟨h, by omega⟩
          by_cases hq4 : t.op = 163
          all_goals try have hq5 := hq3 hq4
          all_goals clear hq3
          all_goals repeat' (first | refine KK ?_ | refine KG ?_ | fail)
          all_goals try (exfalso; omega)
          all_goals exact J1 (μk, w2, v3) ⟨MLe.refl _, hpk⟩
      rintro ⟨μ6, w3, w4⟩ ⟨hle6, hp6⟩
      dsimp only [List.cons_append, List.nil_append] at hle6 hp6 ⊢
      have ow3 := hp6.2.1.one
      have ow4 := hp6.2.2.one
      have hmn := fun (w2 : World) (hw2 : MOk μ6 w2) (hO2 : Go.Vcg.Own μ6 (ckP fb gm gs n (.slice (some adU) n cc) ck ik) w2) => ih ps (some adU) cc n fb gm gs kd x f (Iq.dN t.op t.n t.m p2 k) w1 w3 w4 (deep + 1) ck ik w2 μ6 hw2 hO2 (hmq.mono (hlek2.trans hle6)) (hU.mono (hlek2.trans hle6)) hf (hkx.mono (hlek2.trans hle6)) hkall (by omega) (by omega) hp6 (hik.mono hle6) hBk (hkid2 k ck hcmk) (by omega) (by omega)
      rw [MJ] at hmn
      have hckb := fun (c' : Iq.CkS) (b : Bool) => sZ (row := aH) (fs := bM ps) (t := kd) (f := f) (p := Iq.dN t.op t.n t.m p2 k) (deep := deep + 1) (c' := c') (b := b) hfl hn1 hloc hBk (hkid2 k ck hcmk) (wG kd hkall (by omega))
      generalize Iq.dI aH (bM ps) f kd (Iq.dN t.op t.n t.m p2 k) (deep + 1) ck = S2 at hmn hRk hckb
      obtain ⟨s2, b2⟩ := S2
      dsimp only at hmn hRk
      cases b2
      · rw [if_neg (by simp)] at hRk
        subst hRk
        repeat' (first | refine KO ?_ | (refine CF 76 ?_; (with_reducible apply aA (Ls := fun i2 => ckP fb gm gs n (.slice (some adU) n cc) s2 i2) (Post := fW s2 false) 4); (iterate 3 exact rfl); ((with_reducible apply vR); kernel_rfl; (iterate 5 exact rfl)); exact rfl; (exact hmn); (rintro v6 μ7 i2 hle7 ⟨rfl, hi2⟩); (dsimp only [List.cons_append, List.nil_append])) | refine KI ?_ | fail)
        all_goals (refine aM (l' := [(10, .bool false)]) (L' := ckP fb gm gs n (.slice (some adU) n cc) s2 i2) PU PS ?_; exact bZ hcnt rfl (aB rfl) i2 rfl rfl hi2)
      · rw [if_pos rfl] at hRk
        obtain ⟨hB2, hcm2⟩ := hckb s2 true rfl rfl
        repeat' (first | refine KO ?_ | (refine CF 76 ?_; (with_reducible apply aA (Ls := fun i2 => ckP fb gm gs n (.slice (some adU) n cc) s2 i2) (Post := fW s2 true) 4); (iterate 3 exact rfl); ((with_reducible apply vR); kernel_rfl; (iterate 5 exact rfl)); exact rfl; (exact hmn); (rintro v6 μ7 i2 hle7 ⟨rfl, hi2⟩); (dsimp only [List.cons_append, List.nil_append])) | refine KI ?_ | fail)
        all_goals exact J2 (k + 1, s2, i2, μ7) ⟨by dsimp only; omega, hlek.trans (hle6.trans hle7), hi2, hB2, Nat.le_trans hcmk hcm2, hRk⟩ (by dsimp only; omega)
    · rw [List.drop_of_length_le (by omega), DA] at hRk
      subst hRk
      repeat' (first | refine KK ?_ | fail)
      all_goals (refine aM (l' := [(10, .bool true)]) (L' := ckP fb gm gs n (.slice (some adU) n cc) ck ik) PU PS ?_; exact bZ hcnt rfl (aB rfl) ik rfl rfl hik)
end
end Go.Proofs.YtoclmkdfcafhfaaGreatDoor
