/- Package scope's reference: every node. -/
import Derived.Test.YtlllalmkkaolfaaGreatDoorQar
set_option maxRecDepth 20000
set_option maxHeartbeats 2000000
namespace Go.Proofs.YtlllalmkkaolfaaGreatDoor
section
open Go.RowKit Go.Vcg
section
variable {E : List Fl} {n fu : Nat}
theorem aGo (t : T) (w : Wh) (s : FS) : (pF t w s).scopes = s.scopes ∧ (pF t w s).funcs = s.funcs ∧ (pF t w s).uses.map FV = s.uses.map FV ++ [(w.scope, t.s, w.fn)] := by
 unfold pF
 refine ⟨rfl, rfl, ?_⟩
 cases mC s.scopes w.scope t.s with
 | none => simp [FV]
 | some ab => simp [FV]
theorem QI {t : T} {up : Int} {kid fn i c : Nat} {w : Wh} {s : FS} {st : RS} (h : AtG E (n + 1) t up kid fn i c) (b : Rel i c s st) (g : w.fn = fn) (e : w.scope = inG E st.ins st.ops up kid) (h4 : t.op ≠ 4) (a : t.kids = []) (f : nmE E i = nN [] 0) (hu : tC E i = true) :
 Rel (i + t.size) (c + lW (gJ (n + 1) t up kid fn i c)) (pF t w s) (foldI (bM E) i t.size st) ∧ Ext st (foldI (bM E) i t.size st) := by
 have he := h.eat
 have d : t.size = 1 := by rw [bA, a]; rfl
 have hc : lW (gJ (n + 1) t up kid fn i c) = 0 := by
  rw [gJ, a, gP]
  unfold lW
  simp [h4]
 have key : bM E st i = ⟨st.L, st.ins ++ [w.scope], st.ops ++ [-1], st.us ++ [(w.scope, t.s, (fn : Int))]⟩ := by
  unfold bM
  rw [he]
  dsimp only
  rw [hu, f, ← e]
  rfl
 obtain ⟨e1, e2, e3⟩ := aGo t w s
 rw [hc, d, foldI, foldI, key]
 exact ⟨⟨b.L.trans e1.symm, by rw [e3, g]; dsimp only; rw [b.us], by simp [b.li], by simp [b.lo], e2.trans b.fc⟩, ⟨_, _, rfl, rfl⟩⟩
theorem ND {α : Type} (g : FS → α → FS) (hg : ∀ s a, Eqv s (g s a)) : ∀ (l : List α) (s : FS), Eqv s (l.foldl g s)
 | [], s => Eqv.refl s
 | a :: r, s => by rw [bY]; exact (hg s a).trans (ND g hg r _)
theorem aGt (N : T → Wh → FS → FS) (t : T) (w : Wh) (s : FS) : Eqv (uJ N (t.kids.drop 1) w (N (dM t 0) { w with decl := true } s)) (yB N t w s) := by
 unfold yB
 refine ND _ (fun s x => ?_) _ _
 cases mC s.scopes w.scope x with
 | none => exact Eqv.refl _
 | some ab => exact ⟨rfl, rfl, rfl⟩
theorem ML {t : T} (h : 1 ≤ t.kids.length) : t.kids = dM t 0 :: t.kids.drop 1 := by
 cases hk : t.kids with
 | nil => rw [hk] at h; simp at h
 | cons k r => unfold dM; rw [hk]; rfl
theorem xT {F G : FS → T → Nat → FS} : ∀ (ks : List T) (j : Nat) (s : FS), (∀ k jj s, j ≤ jj → F s k jj = G s k jj) → rY F ks j s = rY G ks j s
 | [], _, _, _ => rfl
 | k :: r, j, s, h => by rw [rY, rY, h k j s (aD _), xT r (j + 1) _ fun k jj s a => h k jj s (by omega)]
theorem aDy (w : Wh) (l : List Bd) (s : FS) : (fU w l s).fn = w.fn := by unfold fU; split <;> rfl
theorem aFy (ih : ∀ m, m ≤ n → ∀ k, k.size ≤ m → eK Vn k → ∀ f, k.size ≤ f → Good E m fu f k) {t : T} (hs : t.size ≤ n + 1) (hq : eK Vn t) {f : Nat} (hf : t.size ≤ f + 1) (ao : t.size ≤ fu) {up : Int} {kid fn i c : Nat} {w : Wh} {s : FS} {st : RS} (hA : AtG E (n + 1) t up kid fn i c) (z : Rel i c s st) (aj : w.scope = inG E st.ins st.ops up kid) (h4 : t.op = 4) (hu : tC E i = false) :
 Rel (i + t.size) (c + lW (gJ (n + 1) t up kid fn i c)) (JD (nbS fu f) fu t w s) (foldI (bM E) i t.size st) ∧ Ext st (foldI (bM E) i t.size st) := by
 have he := hA.eat
 have ad := hq.here.fn h4
 have ap := aJ6 hA hs h4 ad fu ao
 obtain ⟨⟨p, d, b⟩, ab, hb⟩ := ad
 have af : dM t 0 = p := by unfold dM; rw [b]; rfl
 have ae : dM t 1 = d := by unfold dM; rw [b]; rfl
 rw [ae] at hb
 rw [af] at ab
 have v : p ∈ t.kids := by rw [b]; exact aF ..
 have e : d ∈ t.kids := by rw [b]; exact cK (aF ..)
 have hp := jM hs v
 have hd := jM hs e
 have aa := bA t
 have j := hA.kids
 rw [JX]
 unfold uH lK at j ⊢
 rw [if_pos h4, if_pos h4, b] at j
 rw [if_pos h4, if_pos h4, b]
 rw [b, cO, cO, show szs [] = 0 from rfl] at aa
 have al : nmE E i = (eG fu t, 1) := by
  unfold nmE
  rw [he]
  dsimp only
  rw [if_neg (by omega), if_pos h4, ap]
 rw [if_pos h4] at he
 obtain ⟨s2, u⟩ : ∃ x, (if (!decide (t.s = ⟨#[]⟩) && !jG t 1) = true then lO 5 t.at' { w with fn := ((s.funcs + 1 : Nat) : Int) } [⟨t.s, 7, false, 0⟩] { s with funcs := s.funcs + 1 } else { s with funcs := s.funcs + 1 }) = x := ⟨_, rfl⟩
 obtain ⟨w2, q⟩ : ∃ x, (if (!decide (t.s = ⟨#[]⟩) && !jG t 1) = true then qA { w with fn := ((s.funcs + 1 : Nat) : Int) } { s with funcs := s.funcs + 1 } else { w with fn := ((s.funcs + 1 : Nat) : Int) }) = x := ⟨_, rfl⟩
 have r : nF t = (!decide (t.s = ⟨#[]⟩) && !jG t 1) := by unfold nF; rw [decide_eq_true h4, cH]
 have e1 : s2.uses = s.uses ∧ s2.funcs = c + 1 ∧ w2.fn = ((c + 1 : Nat) : Int) ∧ s2.scopes = (if nF t = true then st.L ++ [⟨w.scope, ((c + 1 : Nat) : Int), 5, t.at', [⟨t.s, 7, false, 0⟩]⟩] else st.L) ∧ w2.scope = (if nF t = true then (st.L.length : Int) else w.scope) := by
  rw [r, ← u, ← q, z.L, ← z.fc]
  cases (!decide (t.s = ⟨#[]⟩) && !jG t 1) <;> exact ⟨rfl, rfl, rfl, rfl, rfl⟩
 obtain ⟨e1, e2, e3, e4, e5⟩ := e1
 have key : bM E st i = ⟨s2.scopes ++ [⟨w2.scope, ((c + 1 : Nat) : Int), 1, t.at', eG fu t⟩], st.ins ++ [w.scope], st.ops ++ [(s2.scopes.length : Int)], st.us⟩ := by
  unfold bM
  rw [he]
  dsimp only
  rw [hu, al, ← aj, if_pos h4, if_neg (show ¬((1 : Int) < 0) by decide), e4, e5]
  rfl
 have h1 : Rel (i + 1) (c + 1) (lO 1 t.at' w2 (eG fu t) s2) (bM E st i) := by
  rw [key]
  refine ⟨?_, ?_, by simp [z.li], by simp [z.lo], e2⟩
  ·unfold lO
   dsimp only
   rw [e3]
  ·show st.us = s2.uses.map FV
   rw [e1]
   exact z.us
 have h3 : ∀ jj, inG E (bM E st i).ins (bM E st i).ops (i : Int) jj = (s2.scopes.length : Int) := fun jj => by
  rw [key]
  unfold inG
  dsimp only
  rw [if_pos (by omega), cL, aX (by rw [z.lo]; exact aD _), z.lo, dN, he]
  rw [if_neg (by
   rintro (h | h)
   ·simp at h
    omega
   ·have := h.1
    dsimp only at this
    omega)]
  rfl
 have hx0 : Ext st (bM E st i) := by rw [key]; exact ⟨_, _, rfl, rfl⟩
 have a : (qA w2 s2).scope = (s2.scopes.length : Int) ∧ (qA w2 s2).fn = ((c + 1 : Nat) : Int) := ⟨rfl, e3⟩
 have ag : JD (nbS fu f) fu t w s = (let s4 := nbS fu f p (qA w2 s2) (lO 1 t.at' w2 (eG fu t) s2); if d.op = 6 ∧ jG t 128 = false then uJ (nbS fu f) d.kids (qA w2 s2) s4 else nbS fu f d (qA w2 s2) s4) := by
  rw [← u, ← q, ← af, ← ae]
  rfl
 rw [ag, aa]
 clear ag u q
 generalize lO 1 t.at' w2 (eG fu t) s2 = s3 at h1 ⊢
 generalize qA w2 s2 = w3 at a ⊢
 obtain ⟨st1, o⟩ : ∃ x, bM E st i = x := ⟨_, rfl⟩
 rw [o] at h1 h3 hx0
 dsimp only
 obtain ⟨g1, g2⟩ := ih n (aD _) p hp (hq.kid v) f (jM hf v) (i : Int) 0 (c + 1) (i + 1) (c + 1) w3 s3 st1 j.hd h1 a.2 (by rw [a.1, h3]) (fun h => by rw [cL, he] at h; exact absurd h.2.1 (by dsimp only; omega)) (fun h => by omega)
 have e6 : c + 1 + lW (gP (gJ n) [p, d] (i : Int) 0 (c + 1) (i + 1) (c + 1)) = c + 1 + lW (gJ n p (i : Int) 0 (c + 1) (i + 1) (c + 1)) + lW (gJ n d (i : Int) 1 (c + 1) (i + 1 + p.size) (c + 1 + lW (gJ n p (i : Int) 0 (c + 1) (i + 1) (c + 1)))) := by
  rw [gP, yF, gP, gP, fI, bB]
  omega
 have e7 : foldI (bM E) i (1 + (p.size + (d.size + 0))) st = foldI (bM E) (i + 1 + p.size) d.size (foldI (bM E) (i + 1) p.size st1) := by
  rw [cB, lC _ 1, lC, foldI, foldI, o]
 rw [e6, e7, show i + (1 + (p.size + (d.size + 0))) = i + 1 + p.size + d.size by omega]
 have hD := (j.tl hp).hd
 generalize c + 1 + lW (gJ n p (i : Int) 0 (c + 1) (i + 1) (c + 1)) = c2 at g1 hD ⊢
 generalize nbS fu f p w3 s3 = s4 at g1 ⊢
 have y : w3.scope = inG E (foldI (bM E) (i + 1) p.size st1).ins (foldI (bM E) (i + 1) p.size st1).ops (i : Int) 1 := by
  rw [g2.inG E ⟨h1.li, h1.lo⟩ (by omega), a.1, h3]
 generalize foldI (bM E) (i + 1) p.size st1 = st4 at g1 g2 y ⊢
 have hx : Ext st st4 := hx0.trans g2
 rcases hb with ⟨g, ai⟩ | ⟨g, ai⟩
 ·rw [if_pos ⟨g, ai⟩]
  obtain ⟨m, rfl⟩ : ∃ x, n = x + 1 := ⟨n - 1, by have := bA d; omega⟩
  have ah := hD.eat
  obtain ⟨q1, q2⟩ := pE (l := []) (kind := 2) (w := w3) (fun k hk ak f an => ih m (by omega) k hk ak f an) hd (hq.kid e) hD g1 a.2 y (by omega) (by omega) (by decide) (by
   unfold nmE
   rw [ah]
   dsimp only
   rw [if_neg (by omega), if_neg (by omega), if_pos g, if_neg (fun h => h.2 (by rw [cL, he]; exact h4))]) (NW ah (by dsimp only; omega) (fun h => by rw [cL, he] at h; exact absurd h.2.1 (by dsimp only; omega)))
   (fun x k _ => nbS fu f k w3 x) (fun _ => w3.scope) (fun jj => by split <;> rfl) (fun k jj x hk => ⟨f, w3, x, jM (by have := jM hf e; omega) hk, Eqv.refl _, Eqv.refl _, a.2, rfl⟩)
  rw [qO (nbS fu f) w3] at q1
  exact ⟨q1, hx.trans q2⟩
 ·rw [if_neg (fun h => g h.1)]
  obtain ⟨q1, q2⟩ := ih n (aD _) d hd (hq.kid e) f (jM hf e) (i : Int) 1 (c + 1) (i + 1 + p.size) c2 w3 s4 st4 hD g1 a.2 y (fun h => by have := h.2.2.2; omega) (fun h => absurd h g)
  exact ⟨q1, hx.trans q2⟩
theorem aHu {t : T} {l : List Bd} : bN [t] false l = if t.op = 2 ∧ t.n ≠ 0 then eP t l else l := by
 unfold bN
 simp only [bY, List.foldl_nil, gE]
 split <;> rfl
theorem aBn (ih : ∀ m, m ≤ n → ∀ k, k.size ≤ m → eK Vn k → ∀ f, k.size ≤ f → Good E m fu f k) (t : T) (hs : t.size ≤ n + 1) (p : eK Vn t) (f : Nat) (hf : t.size ≤ f + 1) (z : t.size ≤ fu) : Good E (n + 1) fu (f + 1) t := by
 intro up kid fn i c w s st g o a d ae h6
 have he := g.eat
 have het : (dH E i).t = t := by rw [he]
 have ad : (dH E i).up = up := by rw [he]
 have hV := p.here
 have b : ∀ k ∈ t.kids, k.size ≤ f := fun k hk => jM hf hk
 have hu : t.op ≠ 34 → tC E i = false := fun af => NW he af ae
 have ih0 := ih n (aD _)
 have e : ∀ l s, (fU w l s).fn = fn := fun l s => by rw [aDy, a]
 show Rel _ _ (zS (nbS fu f) fu t w s) _ ∧ _
 unfold zS
 by_cases o34 : t.op = 34
 ·rw [if_pos o34]
  exact QI g o a d (by omega) (hV.nam o34) (IL het (by omega)) (by unfold tC; rw [het, decide_eq_true o34]; rfl)
 rw [if_neg o34]
 have hu := hu o34
 have p1 := hV.pr
 by_cases o4 : t.op = 4
 ·rw [if_pos o4]
  exact aFy (w := { w with decl := false }) ih hs p hf z g o d o4 hu
 rw [if_neg o4]
 by_cases o6 : t.op = 6
 ·rw [if_pos o6]
  obtain ⟨g1, g2⟩ := pE (l := bN t.kids true []) (kind := 2) ih0 hs p g o a d o4 (by omega) (by decide) (by
   unfold nmE
   rw [het]
   dsimp only
   rw [if_neg p1, if_neg o4, if_pos o6, ad, if_pos (h6 o6)]) hu (fun x k _ => nbS fu f k (fU w (bN t.kids true []) s) x) (fun _ => (fU w (bN t.kids true []) s).scope) (fun jj => by rw [if_neg (by omega)]) (fun k jj x hk => ⟨f, _, x, b k hk, Eqv.refl _, Eqv.refl _, e _ _, rfl⟩)
  rw [qO (nbS fu f)] at g1
  exact ⟨g1, g2⟩
 rw [if_neg o6]
 by_cases o21 : t.op = 21
 ·rw [if_pos o21]
  obtain ⟨l, hl⟩ : ∃ l, (t.kids.drop 1).foldl (fun l k => bN k.kids true l) [] = l := ⟨_, rfl⟩
  have hne := ML (hV.one (by omega))
  obtain ⟨g1, g2⟩ := pE (l := l) (kind := 2) ih0 hs p g o a d o4 (by omega) (by decide) (by
   unfold nmE
   rw [het]
   dsimp only
   rw [if_neg p1, if_neg o4, if_neg o6, if_pos o21, hl]) hu (fun x k jj => if jj = 0 then nbS fu f k w x else nbS fu f k (fU w l s) (if (fU w l s).scope ≠ w.scope then { x with cases := kM (fU w l s).scope ((jj - 1 : Nat) : Int) x.cases } else x)) (fun jj => if t.op = 21 ∧ jj = 0 then w.scope else (fU w l s).scope) (fun jj => rfl) (fun k jj x hk => by
    by_cases u : jj = 0
    ·exact ⟨f, w, x, b k hk, Eqv.refl _, by rw [if_pos u]; exact Eqv.refl _, a, by rw [if_pos ⟨o21, u⟩]⟩
    ·refine ⟨f, fU w l s, (if (fU w l s).scope ≠ w.scope then { x with cases := kM (fU w l s).scope ((jj - 1 : Nat) : Int) x.cases } else x), b k hk, by split <;> exact ⟨rfl, rfl, rfl⟩, by rw [if_neg u]; exact Eqv.refl _, e _ _, by rw [if_neg (fun h => u h.2)]⟩)
  refine ⟨?_, g2⟩
  rw [hne, rY, if_pos rfl] at g1
  unfold rG
  rw [hl]
  dsimp only
  rw [zA, FC]
  rw [xT (G := fun s k j => nbS fu f k (fU w l _) (if (fU w l _).scope ≠ w.scope then { s with cases := kM (fU w l _).scope ((j - 1 : Nat) : Int) s.cases } else s))] at g1
  ·exact g1
  ·intro k jj x u
   rw [if_neg (by omega)]
 rw [if_neg o21]
 by_cases ol : t.op = 10 ∨ t.op = 11 ∨ t.op = 12
 ·rw [if_pos ol]
  obtain ⟨l, hl⟩ : ∃ l, bN [dM t 0] false [] = l := ⟨_, rfl⟩
  have y : (if (decide ((dM t 0).op = 2) && !decide ((dM t 0).n = 0)) = true then kA 3 t.at' w (eP (dM t 0) []) s else s) = kA 3 t.at' w l s ∧ (if (decide ((dM t 0).op = 2) && !decide ((dM t 0).n = 0)) = true then fU w (eP (dM t 0) []) s else w) = fU w l s := by
   rw [← hl, aHu]
   by_cases h2 : (dM t 0).op = 2 ∧ (dM t 0).n ≠ 0
   ·rw [if_pos h2, decide_eq_true h2.1, decide_eq_false h2.2]
    exact ⟨rfl, rfl⟩
   ·rw [if_neg h2, if_neg (by
     rw [aS]
     intro h
     exact h2 ⟨of_decide_eq_true h.1, by simpa using h.2⟩), if_neg (by
     rw [aS]
     intro h
     exact h2 ⟨of_decide_eq_true h.1, by simpa using h.2⟩)]
    exact ⟨rfl, rfl⟩
  obtain ⟨g1, g2⟩ := pE (l := l) (kind := 3) ih0 hs p g o a d o4 (by omega) (by decide) (by
   unfold nmE
   rw [het]
   dsimp only
   rw [if_neg p1, if_neg o4, if_neg o6, if_neg o21, if_pos ol, hl]) hu (fun x k jj => if jj = 1 ∧ t.op ≠ 10 ∧ (fU w l s).scope ≠ w.scope then
    { nbS fu f k (fU w l s) { x with heads := kM (fU w l s).scope true x.heads } with heads := zN (fU w l s).scope (nbS fu f k (fU w l s) { x with heads := kM (fU w l s).scope true x.heads }).heads } else nbS fu f k (fU w l s) x) (fun _ => (fU w l s).scope) (fun jj => by rw [if_neg (by omega)]) (fun k jj x hk => by
    dsimp only
    split
    ·exact ⟨f, fU w l s, { x with heads := kM (fU w l s).scope true x.heads }, b k hk, ⟨rfl, rfl, rfl⟩, ⟨rfl, rfl, rfl⟩, e _ _, rfl⟩
    ·exact ⟨f, fU w l s, x, b k hk, Eqv.refl _, Eqv.refl _, e _ _, rfl⟩)
  refine ⟨?_, g2⟩
  unfold zX
  dsimp only
  rw [y.1, y.2, zA]
  exact g1
 rw [if_neg ol]
 by_cases o20 : t.op = 20
 ·rw [if_pos o20]
  obtain ⟨g1, g2⟩ := pE (l := dU 5 (bD (dM t 0)) []) (kind := 4) ih0 hs p g o a d o4 (by omega) (by decide) (by
   unfold nmE
   rw [het]
   dsimp only
   rw [if_neg p1, if_neg o4, if_neg o6, if_neg o21, if_neg ol, if_pos o20]) hu (fun x k _ => nbS fu f k (fU w (dU 5 (bD (dM t 0)) []) s) x) (fun _ => (fU w (dU 5 (bD (dM t 0)) []) s).scope) (fun jj => by rw [if_neg (by omega)]) (fun k jj x hk => ⟨f, _, x, b k hk, Eqv.refl _, Eqv.refl _, e _ _, rfl⟩)
  rw [qO (nbS fu f)] at g1
  exact ⟨g1, g2⟩
 rw [if_neg o20]
 have q := IL het ⟨p1, o4, o6, o21, fun h => ol (.inl h), fun h => ol (.inr (.inl h)), fun h => ol (.inr (.inr h)), o20⟩
 by_cases o3 : t.op = 3
 ·rw [if_pos o3]
  have hne := ML (hV.one (by omega))
  obtain ⟨g1, g2⟩ := pE (l := []) (kind := 0) ih0 hs p g o a d o4 (by omega) (by decide) q hu (fun x k jj => if jj = 0 then nbS fu f k { w with decl := true } x else nbS fu f k w x) (fun _ => w.scope) (fun jj => by rw [if_neg (by omega)]; rfl) (fun k jj x hk => by
   split
   ·exact ⟨f, { w with decl := true }, x, b k hk, Eqv.refl _, Eqv.refl _, a, rfl⟩
   ·exact ⟨f, w, x, b k hk, Eqv.refl _, Eqv.refl _, a, rfl⟩)
  refine ⟨?_, g2⟩
  rw [hne, rY, if_pos rfl] at g1
  rw [xT (G := fun s k _ => nbS fu f k w s) _ _ _ (fun k jj x u => by rw [if_neg (by omega)]), qO (nbS fu f)] at g1
  exact g1.eqv (aGt (nbS fu f) t w s)
 rw [if_neg o3]
 by_cases o39 : t.op = 39
 ·rw [if_pos o39]
  by_cases n3 : t.n = 3
  ·rw [if_pos n3]
   obtain ⟨k, hk, k31, kk⟩ := hV.sht o39 n3
   have ab : dM t 0 = k := by unfold dM; rw [hk]; rfl
   obtain ⟨h1, h2, h3⟩ := MP (l := []) (kind := 0) g o a d o4 (by decide) q hu
   have r := g.kids
   rw [JX]
   unfold uH lK at r ⊢
   rw [if_neg o4, if_neg o4, hk] at r
   rw [if_neg o4, if_neg o4, hk, ab]
   have v := bA t
   rw [hk, cO, show szs [] = 0 from rfl] at v
   have ag : k.size ≤ n := jM hs (by rw [hk]; exact aF ..)
   obtain ⟨m, rfl⟩ : ∃ x, n = x + 1 := ⟨n - 1, by have := bA k; omega⟩
   have hK := r.hd
   have aa := hK.eat
   obtain ⟨g1, g2⟩ := QI (w := w) (s := s) hK h1 a (by rw [h3, if_neg (fun h => o21 h.1)]; rfl) (by omega) kk (IL (t := k) (by rw [aa]) (by omega)) (by
    unfold tC
    rw [aa]
    dsimp only
    rw [cL, het, decide_eq_true o39, decide_eq_true n3, decide_eq_true (show (0 : Int) ≤ (i : Int) by omega)]
    simp)
   rw [gP, gP, fI, v, cB, ← kS, lC, foldI, foldI]
   exact ⟨g1, h2.trans g2⟩
  ·rw [if_neg n3]
   obtain ⟨g1, g2⟩ := pE (l := []) (kind := 0) ih0 hs p g o a d o4 (fun h => n3 h.2) (by decide) q hu (fun x k _ => nbS fu f k w x) (fun _ => w.scope) (fun jj => by rw [if_neg (by omega)]; rfl) (fun k jj x hk => ⟨f, w, x, b k hk, Eqv.refl _, Eqv.refl _, a, rfl⟩)
   rw [qO (nbS fu f)] at g1
   exact ⟨g1, g2⟩
 rw [if_neg o39]
 obtain ⟨g1, g2⟩ := pE (l := []) (kind := 0) ih0 hs p g o a d o4 (fun h => o39 h.1) (by decide) q hu (fun x k jj => if t.op = 60 ∨ t.op = 61 ∨ t.op = 64 ∨ (t.op = 63 ∧ jj = 0) ∨ (t.op = 62 ∧ jj = 1) then nbS fu f k w x else nbS fu f k { w with decl := false } x) (fun _ => w.scope) (fun jj => by rw [if_neg (by omega)]; rfl) (fun k jj x hk => by
  split
  ·exact ⟨f, w, x, b k hk, Eqv.refl _, Eqv.refl _, a, rfl⟩
  ·exact ⟨f, { w with decl := false }, x, b k hk, Eqv.refl _, Eqv.refl _, a, rfl⟩)
 refine ⟨?_, g2⟩
 unfold uF
 rw [zA]
 exact g1
theorem aG9 : ∀ (n : Nat), n ≤ fu → ∀ (k : T), k.size ≤ n → eK Vn k → ∀ f, k.size ≤ f → Good E n fu f k := by
 intro n
 induction n using Nat.strongRecOn with
 | ind n ih =>
   intro hn k hk a f hf
   have b := bA k
   obtain ⟨n, rfl⟩ : ∃ x, n = x + 1 := ⟨n - 1, by omega⟩
   obtain ⟨f, rfl⟩ : ∃ x, f = x + 1 := ⟨f - 1, by omega⟩
   exact aBn (fun m hm k hk a f hf => ih m (by omega) (by omega) k hk a f hf) k hk a f hf (by omega)
end
end
section
open Go.RowKit Go.Vcg
def Qc (op : Int) : Prop := op ≠ 1
theorem NH (p : T → Bool) (m : Int) : ∀ (l : List T) (n : Nat), ∃ e, l = e ++ (mW p m n l).2 ∧ ∀ k ∈ e, p k = true
 | [], n => ⟨[], rfl, by simp⟩
 | k :: r, n => by
   unfold mW
   split
   ·rename_i h
    obtain ⟨e, h1, h2⟩ := NH p m r (n + 1)
    refine ⟨k :: e, by rw [aL, ← h1], fun x a => ?_⟩
    rcases aW.1 a with rfl | a
    ·exact h.1
    ·exact h2 x a
   ·exact ⟨[], rfl, by simp⟩
theorem JG : ∀ (rs : List ((T → Bool) × Int)) (l : List T), dK rs l = true → ∀ k ∈ l, ∃ r ∈ rs, r.1 k = true
 | [], l, h, k, hk => by
   simp [dK] at h
   subst h
   cases hk
 | (p, m) :: rs, l, h, k, hk => by
   unfold dK at h
   split at h
   ·cases h
   ·obtain ⟨e, h1, h2⟩ := NH p m l 0
    rw [h1] at hk
    rcases List.mem_append.1 hk with hk | hk
    ·exact ⟨(p, m), aF .., h2 k hk⟩
    ·obtain ⟨r, hr, a⟩ := JG rs _ h k hk
     exact ⟨r, cK hr, a⟩
theorem aF9 {p : T → Bool} {a b : Int} {l : List T} (h : iS p a b l = true) : ∀ k ∈ l, p k = true := by
 unfold iS at h
 simp only [aS, eD] at h
 exact h.2
theorem aC6 {ps : List (T → Bool)} {l : List T} (h : dK (eI ps) l = true) : ∀ k ∈ l, ∃ p ∈ ps, p k = true := fun k hk => by
 obtain ⟨r, hr, b⟩ := JG _ _ h k hk
 obtain ⟨p, a, rfl⟩ := List.mem_map.1 hr
 exact ⟨p, a, b⟩
theorem lJ {k : T} (h : bR k = true) : Qc k.op := by
 unfold bR at h
 split at h
 ·unfold Qc; omega
 ·simp at h
  unfold Qc
  omega
theorem RJ {is : List Int} {k : T} (h : ofT is k = true) (hi : ∀ i ∈ is, Qc i) : Qc k.op := by
 unfold ofT at h
 exact hi _ (by simpa using h)
theorem rJ {k : T} (h : cW k = true) : Qc k.op := by
 simp [cW, iE] at h
 unfold Qc
 omega
theorem RI {k : T} (h : iE k = true) : Qc k.op := by
 simp [iE] at h
 unfold Qc
 omega
theorem aEk {k : T} {m : Int} (h : fT k m = true) : Qc k.op := by
 unfold fT at h
 simp at h
 unfold Qc; omega
theorem aEj {k : T} (h : tR k = true) : Qc k.op := by
 simp [tR, eiT] at h
 rcases h with h | h
 ·exact rJ h
 ·exact RJ h (by simp [Qc])
theorem aKv {t k : T} (h : pL t k = true) : Qc k.op := by
 unfold pL at h
 split at h
 ·exact lJ h
 ·exact RJ h (by simp [Qc])
theorem rR {ps : List (T → Bool)} {l : List T} (h : dK (eI ps) l = true) (b : ∀ p ∈ ps, ∀ k, p k = true → Qc k.op) : ∀ k ∈ l, Qc k.op := fun k hk => by
 obtain ⟨p, c, a⟩ := aC6 h k hk
 exact b p c k a
theorem LW {rs : List ((T → Bool) × Int)} {l : List T} (h : dK rs l = true) (b : ∀ r ∈ rs, ∀ k, r.1 k = true → Qc k.op) : ∀ k ∈ l, Qc k.op := fun k hk => by
 obtain ⟨r, hr, a⟩ := JG _ _ h k hk
 exact b r hr k a
theorem wX {p : T → Bool} {a b : Int} {l : List T} (h : iS p a b l = true) (c : ∀ k, p k = true → Qc k.op) : ∀ k ∈ l, Qc k.op := fun k hk => c k (aF9 h k hk)
theorem aEh {l : List T} (h : decide (l.length = 0) = true) : ∀ k ∈ l, Qc k.op := fun k hk => by
 have : l = [] := cF (by simpa using h)
 subst this
 cases hk
theorem aPr {t : T} (h : exB t = true) : ∀ k ∈ t.kids, Qc k.op := by
 unfold exB at h
 by_cases aa : t.op = 30 ∨ t.op = 31 ∨ t.op = 32 ∨ t.op = 33 ∨ t.op = 34 ∨ t.op = 35 ∨ t.op = 40
 ·rw [if_pos aa] at h
  exact aEh h
 rw [if_neg aa] at h
 by_cases z : t.op = 36
 ·rw [if_pos z] at h
  have a := CX h
  intro k hk
  obtain ⟨i, hi⟩ := List.mem_iff_getElem?.1 hk
  have := a.2 i k hi
  unfold DF at this
  split at this
  ·unfold Qc; omega
  ·exact lJ this
 rw [if_neg z] at h
 by_cases y : t.op = 37
 ·rw [if_pos y] at h
  refine wX h fun k hk => ?_
  simp [eiT] at hk
  rcases hk with hk | hk
  ·exact lJ hk
  ·exact RJ hk (by simp [Qc])
 rw [if_neg y] at h
 by_cases w : t.op = 38
 ·rw [if_pos w] at h
  exact wX h fun k hk => RJ hk (by simp [Qc])
 rw [if_neg w] at h
 by_cases v : t.op = 39
 ·rw [if_pos v] at h
  unfold pZ at h
  have key : ∀ {q : T → Bool}, dK (eI [pL t, q]) t.kids = true → (∀ k, q k = true → Qc k.op) → ∀ k ∈ t.kids, Qc k.op := fun h hq => rR h (by
   intro p a k hk
   simp at a
   rcases a with rfl | rfl
   ·exact aKv hk
   ·exact hq k hk)
  split at h
  ·exact key h fun k hk => lJ hk
  split at h
  ·exact key h fun k hk => by
    simp [CK] at hk
    exact aEk hk.1
  split at h
  ·exact key h fun k hk => by
    simp [zJ] at hk
    exact aEk hk.1
  split at h
  ·exact key h fun k hk => aEk hk
  split at h
  ·refine rR h fun p a k hk => ?_
   simp at a
   subst a
   simp [nO] at hk
   unfold Qc; omega
  ·refine rR h fun p a k hk => ?_
   simp at a
   subst a
   exact lJ hk
 rw [if_neg v] at h
 by_cases u : t.op = 41 ∨ t.op = 42
 ·rw [if_pos u] at h
  refine rR h fun p a k hk => ?_
  simp at a
  subst a
  exact lJ hk
 rw [if_neg u] at h
 by_cases o : t.op = 43
 ·rw [if_pos o] at h
  refine rR h fun p a k hk => ?_
  simp at a
  subst a
  exact RI hk
 rw [if_neg o] at h
 by_cases l : t.op = 44 ∨ t.op = 45 ∨ t.op = 52
 ·rw [if_pos l] at h
  exact wX h fun k hk => lJ hk
 rw [if_neg l] at h
 by_cases j : t.op = 46
 ·rw [if_pos j] at h
  split at h
  ·refine rR h fun p a k hk => ?_
   simp at a
   rcases a with rfl | rfl
   ·exact rJ hk
   ·exact lJ hk
  ·refine rR h fun p a k hk => ?_
   simp at a
   rcases a with rfl | rfl
   ·exact RI hk
   ·exact lJ hk
 rw [if_neg j] at h
 by_cases g : t.op = 47
 ·rw [if_pos g] at h
  exact wX h fun k hk => lJ hk
 rw [if_neg g] at h
 by_cases f : t.op = 48
 ·rw [if_pos f] at h
  exact wX h fun k hk => lJ hk
 rw [if_neg f] at h
 by_cases e : t.op = 49 ∨ t.op = 50
 ·rw [if_pos e] at h
  refine LW h fun r hr k hk => ?_
  simp at hr
  rcases hr with rfl | rfl
  ·exact lJ hk
  ·simp [FM, eiT] at hk
   rcases hk with hk | hk
   ·exact lJ hk
   ·exact RJ hk (by simp [Qc])
 rw [if_neg e] at h
 by_cases d : t.op = 51
 ·rw [if_pos d] at h
  exact wX h fun k hk => lJ hk
 rw [if_neg d] at h
 by_cases c : t.op = 53
 ·rw [if_pos c] at h
  unfold rU at h
  split at h
  ·rename_i k ab
   intro x hx
   rw [ab] at hx
   simp at hx
   subst hx
   have hc := CX h
   have hl : gU x = true := by cases hc <;> assumption
   simp [gU] at hl
   unfold Qc; omega
  ·cases h
 rw [if_neg c] at h
 by_cases b : t.op = 54
 ·rw [if_pos b] at h
  exact wX h fun k hk => lJ hk
 rw [if_neg b] at h
 ·unfold kG at h
  split at h
  ·refine LW h fun r hr k hk => ?_
   simp at hr
   rcases hr with rfl | rfl
   ·simp [eiT] at hk
    rcases hk with hk | hk
    ·exact aEj hk
    ·exact RJ hk (by simp [Qc])
   ·exact RJ hk (by simp [Qc])
  split at h
  ·refine LW h fun r hr k hk => ?_
   simp at hr
   rcases hr with rfl | rfl <;> exact RJ hk (by simp [Qc])
  split at h
  ·refine rR h fun p a k hk => ?_
   simp at a
   rcases a with rfl | rfl
   ·exact aKv hk
   ·exact aEj hk
  split at h
  ·refine rR h fun p a k hk => ?_
   simp at a
   rcases a with rfl | rfl
   ·exact rJ hk
   ·exact lJ hk
  split at h
  ·refine rR h fun p a k hk => ?_
   simp at a
   subst a
   exact rJ hk
  ·cases h
theorem ON {k : T} (h : fJ k = true) : Qc k.op := by
 unfold fJ at h
 unfold Qc
 split at h
 ·omega
 ·simp at h
  omega
theorem aL8 {k : T} (h : rX k = true) : Qc k.op := by
 unfold rX at h
 simp at h
 rcases h with h | h
 ·exact rJ h
 ·unfold Qc; omega
theorem aL9 {ps : List (T → Bool)} {k : T} (h : eiT ps k = true) (a : ∀ p ∈ ps, ∀ k, p k = true → Qc k.op) : Qc k.op := by
 unfold eiT at h
 obtain ⟨p, b, h⟩ := List.any_eq_true.1 h
 exact a p b k h
theorem aPq {t : T} (h : stB t = true) : ∀ k ∈ t.kids, Qc k.op := by
 have of7 : ∀ {is : List Int} {k : T}, ofT is k = true → (1 : Int) ∉ is → Qc k.op := fun {is k} h hn => by
  unfold ofT at h
  have h2 : k.op ∈ is := by simpa using h
  intro e
  rw [e] at h2
  exact hn h2
 unfold stB at h
 by_cases c1 : t.op = 1 ∨ t.op = 6
 ·rw [if_pos c1] at h
  exact wX h fun k hk => ON hk
 rw [if_neg c1] at h
 by_cases c2 : t.op = 2
 ·rw [if_pos c2] at h
  exact wX h fun k hk => of7 hk (by simp)
 rw [if_neg c2] at h
 by_cases c3 : t.op = 3
 ·rw [if_pos c3] at h
  refine LW h fun r hr k hk => ?_
  simp at hr
  rcases hr with rfl | rfl
  ·exact rJ hk
  ·exact lJ hk
 rw [if_neg c3] at h
 by_cases c4 : t.op = 4
 ·rw [if_pos c4] at h
  refine rR h fun p a k hk => ?_
  simp at a
  rcases a with rfl | rfl
  ·exact of7 hk (by simp)
  ·unfold wJ at hk
   split at hk
   ·exact lJ hk
   ·exact of7 hk (by simp)
 rw [if_neg c4] at h
 by_cases c5 : t.op = 5
 ·rw [if_pos c5] at h
  refine LW h fun r hr k hk => ?_
  simp at hr
  rcases hr with rfl | rfl
  ·refine aL9 hk fun p a k hk => ?_
   simp at a
   rcases a with rfl | rfl
   ·exact rJ hk
   ·exact of7 hk (by simp)
  ·exact of7 hk (by simp)
 rw [if_neg c5] at h
 by_cases c7 : t.op = 7 ∨ t.op = 15 ∨ t.op = 16
 ·rw [if_pos c7] at h
  exact aEh h
 rw [if_neg c7] at h
 have ex7 : ∀ {k : T}, eiT [bR, ofT [7]] k = true → Qc k.op := fun h => aL9 h fun p a k hk => by
  simp at a
  rcases a with rfl | rfl
  ·exact lJ hk
  ·exact of7 hk (by simp)
 have ta7 : ∀ {k : T}, eiT [cW, ofT [7]] k = true → Qc k.op := fun h => aL9 h fun p a k hk => by
  simp at a
  rcases a with rfl | rfl
  ·exact rJ hk
  ·exact of7 hk (by simp)
 have each : ∀ {ps : List (T → Bool)} {l : List T}, dK (eI ps) l = true → (∀ p ∈ ps, (p = bR ∨ p = fJ ∨ p = rX ∨ p = eiT [bR, ofT [7]] ∨ p = eiT [cW, ofT [7]] ∨ ∃ is, p = ofT is ∧ (1 : Int) ∉ is)) → ∀ k ∈ l, Qc k.op := fun h b => rR h fun p a k hk => by
  rcases b p a with rfl | rfl | rfl | rfl | rfl | ⟨is, rfl, hi⟩
  ·exact lJ hk
  ·exact ON hk
  ·exact aL8 hk
  ·exact ex7 hk
  ·exact ta7 hk
  ·exact of7 hk hi
 have row : ∀ {rs : List ((T → Bool) × Int)} {l : List T}, dK rs l = true → (∀ r ∈ rs, (r.1 = bR ∨ r.1 = fJ ∨ ∃ is, r.1 = ofT is ∧ (1 : Int) ∉ is)) → ∀ k ∈ l, Qc k.op := fun h b => LW h fun r hr k hk => by
  rcases b r hr with e | e | ⟨is, e, hi⟩
  ·rw [e] at hk; exact lJ hk
  ·rw [e] at hk; exact ON hk
  ·rw [e] at hk; exact of7 hk hi
 by_cases c8 : t.op = 8 ∨ t.op = 18
 ·rw [if_pos c8] at h
  exact each h (by simp)
 rw [if_neg c8] at h
 by_cases c9 : t.op = 9
 ·rw [if_pos c9] at h
  exact row h (by simp)
 rw [if_neg c9] at h
 by_cases c10 : t.op = 10
 ·rw [if_pos c10] at h
  refine each h fun p a => ?_
  simp at a
  rcases a with rfl | rfl | rfl
  ·exact .inr (.inr (.inr (.inr (.inr ⟨_, rfl, by simp⟩))))
  ·exact .inr (.inr (.inr (.inl rfl)))
  ·exact .inr (.inl rfl)
 rw [if_neg c10] at h
 by_cases c11 : t.op = 11 ∨ t.op = 12
 ·rw [if_pos c11] at h
  exact each h (by simp)
 rw [if_neg c11] at h
 by_cases c13 : t.op = 13
 ·rw [if_pos c13] at h
  exact each h (by simp)
 rw [if_neg c13] at h
 by_cases c14 : t.op = 14
 ·rw [if_pos c14] at h
  exact each h (by simp)
 rw [if_neg c14] at h
 by_cases c17 : t.op = 17
 ·rw [if_pos c17] at h
  exact wX h fun k hk => lJ hk
 rw [if_neg c17] at h
 by_cases c20 : t.op = 20
 ·rw [if_pos c20] at h
  refine each h fun p a => ?_
  simp at a
  rcases a with rfl | rfl
  ·exact .inr (.inr (.inr (.inr (.inl rfl))))
  ·exact .inr (.inr (.inr (.inr (.inr ⟨_, rfl, by simp⟩))))
 rw [if_neg c20] at h
 by_cases c21 : t.op = 21
 ·rw [if_pos c21] at h
  refine row h fun r hr => ?_
  simp at hr
  rcases hr with rfl | rfl
  ·exact .inl rfl
  ·exact .inr (.inr ⟨_, rfl, by simp⟩)
 rw [if_neg c21] at h
 by_cases c22 : t.op = 22
 ·rw [if_pos c22] at h
  split at h
  ·exact wX h fun k hk => ON hk
  ·exact row h (by simp)
 rw [if_neg c22] at h
 by_cases c19 : t.op = 19
 ·rw [if_pos c19] at h
  unfold NY at h
  rw [aS] at h
  refine each h.1 fun p a => ?_
  simp at a
  rcases a with rfl | rfl | rfl <;> exact .inr (.inr (.inr (.inr (.inr ⟨_, rfl, by simp⟩))))
 rw [if_neg c19] at h
 exact each h (by simp)
theorem aEi {t : T} (h : bC t = true) : ∀ k ∈ t.kids, k.op ≠ 1 := by
 unfold bC at h
 split at h
 ·exact aPq h
 ·exact aPr h
theorem aJ7 (t : T) (m : Int) : jG t m = fT t m := rfl
theorem aJo {t : T} {d : Nat} {s : Bool} (h : Rt t d s) (h4 : t.op = 4) : aNo t := by
 cases h with
 | mk hd hn hk hr =>
   unfold bC stB at hk
   rw [if_pos (by omega), if_neg (by omega), if_neg (by omega), if_neg (by omega), if_pos h4] at hk
   obtain ⟨p, r, h1, e, h2⟩ := sM hk
   obtain ⟨b, r2, h3, hb, h5⟩ := sM h2
   have h6 := JF h5
   subst h6 h3
   have a : dM t 1 = b := by unfold dM; rw [h1]; rfl
   refine ⟨⟨p, b, h1⟩, by unfold dM; rw [h1]; simpa [ofT] using e, ?_⟩
   rw [a, aJ7]
   unfold wJ at hb
   cases c : fT t 128 with
   | true =>
     rw [c, if_pos rfl] at hb
     refine .inr ⟨?_, rfl⟩
     unfold bR at hb
     split at hb
     ·omega
     ·simp at hb
      omega
   | false =>
     rw [c, if_neg (by simp)] at hb
     exact .inl ⟨by simpa [ofT] using hb, rfl⟩
theorem aNx {t : T} {d : Nat} {s : Bool} (h : Rt t d s) (h1 : t.op ≠ 1) : Vn t := by
 have a := SU h
 refine ⟨fun h4 => aJo h h4, fun o39 n3 => ?_, fun ho => ?_, fun o34 => ?_, h1⟩
 ·cases h with
  | mk hd hn hk hr =>
    unfold bC exB at hk
    rw [if_neg (by omega), if_neg (by omega), if_neg (by omega), if_neg (by omega), if_neg (by omega), if_pos o39] at hk
    unfold pZ at hk
    rw [if_neg (by omega), if_neg (by omega), if_neg (by omega), if_neg (by omega), if_pos n3] at hk
    obtain ⟨k, r, e1, e, h2⟩ := sM hk
    have h6 := JF h2
    subst h6
    have k31 : k.op = 31 := by
     simp [nO] at e
     exact e.1
    refine ⟨k, e1, k31, ?_⟩
    have c := hr 0 k (by rw [e1]; rfl)
    cases c with
    | mk _ _ b _ =>
      unfold bC exB at b
      rw [if_neg (by omega), if_pos (by omega)] at b
      exact cF (by simpa using b)
 ·by_cases h3 : t.op = 3
  ·exact a.dec h3
  ·by_cases f : t.op = 20
   ·have := a.kc.two (by omega)
    omega
   ·exact a.kc.one (by omega)
 ·cases h with
  | mk hd hn hk hr =>
    unfold bC exB at hk
    rw [if_neg (by omega), if_pos (by omega)] at hk
    exact cF (by simpa using hk)
theorem aKf (t : T) : ∀ (d : Nat) (s : Bool), Rt t d s → t.op ≠ 1 → eK Vn t := T.XA (p := fun t => ∀ (d : Nat) (s : Bool), Rt t d s → t.op ≠ 1 → eK Vn t) (fun t ih d s h h1 => by
 refine .mk (aNx h h1) fun k hk => ?_
 obtain ⟨i, hi⟩ := List.mem_iff_getElem?.1 hk
 cases h with
 | mk _ _ a hr => exact ih k hk _ _ (hr i k hi) (aEi a k hk)) t
theorem ZV {t : T} {d : Nat} {s : Bool} (h : Rt t d s) : ∀ k ∈ t.kids, eK Vn k := fun k hk => by
 obtain ⟨i, hi⟩ := List.mem_iff_getElem?.1 hk
 cases h with
 | mk _ _ a hr => exact aKf k _ _ (hr i k hi) (aEi a k hk)
def jV (t : T) : List Fl := gJ t.size t (-1) 0 0 0 0
def kL : RS := ⟨[], [], [], []⟩
theorem run_eq {t : T} (g : t.op = 1) (d : rtB t 1 false = true) (f : Nat) (hf : t.size ≤ f) : (foldI (bM (jV t)) 0 t.size kL).L = (iA f t).scopes ∧ (foldI (bM (jV t)) 0 t.size kL).us = (iA f t).uses.map FV ∧ (foldI (bM (jV t)) 0 t.size kL).ins.length = t.size ∧ (foldI (bM (jV t)) 0 t.size kL).ops.length = t.size := by
 have c := bA t
 obtain ⟨n, hn⟩ : ∃ n, t.size = n + 1 := ⟨t.size - 1, by omega⟩
 have o : AtG (jV t) (n + 1) t (-1) 0 0 0 0 := ⟨[], [], by unfold jV; rw [hn]; simp, rfl, rfl⟩
 have he := o.eat
 have a := o.kids
 unfold uH lK at a
 simp only [if_neg (show ¬t.op = 4 by omega)] at a
 generalize jV t = E at o he a
 have i : nmE E 0 = (bN t.kids false [], 0) := by
  unfold nmE
  rw [he]
  dsimp only
  rw [if_pos g]
 have hu : tC E 0 = false := NW he (by dsimp only; omega) (fun h => absurd h.1 (by dsimp only; omega))
 have b : nF t = false := by unfold nF; rw [decide_eq_false (by omega)]; rfl
 have key : bM E kL 0 = ⟨[⟨-1, 0, 0, t.at', bN t.kids false []⟩], [-1], [0], []⟩ := by
  unfold bM
  rw [he]
  dsimp only
  rw [hu, i, b, if_neg (show ¬t.op = 4 by omega), if_neg (show ¬((0 : Int) < 0) by decide)]
  rfl
 have h1 : Rel 1 0 (nB t) (bM E kL 0) := by
  rw [key]
  exact ⟨rfl, rfl, rfl, rfl, rfl⟩
 have j : ∀ jj, inG E (bM E kL 0).ins (bM E kL 0).ops (0 : Nat) jj = 0 := fun jj => by
  rw [key]
  unfold inG
  dsimp only
  rw [if_pos (by omega), if_neg (by
   rintro (h | h)
   ·simp at h
   ·have h2 := h.1
    have e0 : dH E ((0 : Nat) : Int).toNat = dH E 0 := rfl
    rw [e0, he] at h2
    dsimp only at h2
    omega)]
  rfl
 obtain ⟨g1, -⟩ := IT (E := E) (n := n) (fu := f) (fun s k _ => nbS f f k ⟨0, 0, false⟩ s) 0 0 (fun _ => 0) (fun k hk p f' l => aG9 n (by omega) k hk p f' l) t.kids 0 1 0 (nB t) _ (fun k hk => ⟨jM (by omega) hk, ZV (iJ d) k hk⟩) a h1 (by omega) (fun jj _ => j jj) (fun k jj s hk _ => ⟨f, ⟨0, 0, false⟩, s, by have := jM (n := n) (by omega) hk; omega, Eqv.refl _, Eqv.refl _, rfl, rfl⟩) (fun jj _ h => by rw [he] at h; have := h.1; dsimp only at this; omega) (fun k _ _ => by rw [he]; dsimp only; omega)
 rw [qO (nbS f f)] at g1
 have e : foldI (bM E) 0 t.size kL = foldI (bM E) 1 (szs t.kids) (bM E kL 0) := by rw [c, lC, foldI, foldI]
 rw [e]
 exact ⟨g1.L, g1.us, by rw [g1.li]; omega, by rw [g1.lo]; omega⟩
noncomputable def dP (p : Prop) : Bool := @decide p (Classical.propDecidable p)
theorem FY {p : Prop} (h : p) : dP p = true := @decide_eq_true p (Classical.propDecidable p) h
theorem CW {p : Prop} (h : ¬p) : dP p = false := @decide_eq_false p (Classical.propDecidable p) h
theorem OA {α : Type} {a b : List α} {k : Nat} (h : a.take k = b.take k) {x y : α} (d : a[k]? = some x) (c : b[k]? = some y) (e : x = y) : a.take (k + 1) = b.take (k + 1) := by
 rw [bQ, bQ, h, d, c, e]
theorem get_eq {α : Type} {a b : List α} (h : a = b) {k : Nat} {x y : α} (d : a[k]? = some x) (c : b[k]? = some y) : x = y := by
 subst h; rw [d] at c; exact cX c
theorem aAk (a b : Bd) : BC (jF a) (jF b) = dP (a = b) := by
 obtain ⟨n1, k1, h1, s1⟩ := a
 obtain ⟨n2, k2, h2, s2⟩ := b
 by_cases h : n1 = n2 ∧ k1 = k2 ∧ h1 = h2 ∧ s1 = s2
 ·obtain ⟨rfl, rfl, rfl, rfl⟩ := h
  rw [FY rfl]
  simp [BC, eqV]
 ·rw [CW (fun e => h (by cases e; exact ⟨rfl, rfl, rfl, rfl⟩))]
  simp [BC, eqV]
  intro e1 e2 e3 e4
  exact h ⟨e1, e2, e3, e4⟩
attribute [local irreducible] dP gN mF fF findF hI kQ nL G GC GQ GA eN Calls IntKind.wrap Int.decLt Int.decLe
theorem HO (w : World) (μ : Mem) (hμ : MOk μ w) (ps qs : List (Sc × Value)) (A B : Option Addr) (c c2 : Nat) (ap : ScR μ A ps) (ao : ScR μ B qs) : aV 17 #[.slice A ps.length c, .slice B qs.length c2] w (.bool (dP (scs ps = scs qs))) := by
 obtain ⟨hS, hl, ak⟩ := ap
 obtain ⟨aw, ay, q⟩ := ao
 generalize hR : dP (scs ps = scs qs) = R
 have no : ∀ {i : Nat} {x y : Sc × Value}, ps[i]? = some x → qs[i]? = some y → ¬ x.1 = y.1 → false = R := fun hx t h => by
  rw [← hR]; symm; exact CW (fun e => h (get_eq e (jB hx) (jB t)))
 refine aE (args := [.slice A ps.length c, .slice B qs.length c2]) Tryz.func17 rfl Tryz.ntmps17 (by simp) hμ ?_
 by_cases hlen : ps.length = qs.length
 rotate_left
 ·have hF : false = R := by rw [← hR]; symm; exact CW (fun e => hlen (by have := congrArg List.length e; simpa using this))
  have p : ¬ (ps.length : Int) = (qs.length : Int) := by omega
  try repeat' (refine KZ ?_)
  all_goals exact aJ rfl rfl (congrArg _ hF)
 have p : (ps.length : Int) = (qs.length : Int) := by omega
 try repeat' (refine KZ ?_)
 refine bW (ι := Nat) (fun i => i ≤ ps.length ∧ (scs ps).take i = (scs qs).take i) (fun i => ps.length - i) (fun _ => μ) (fun i => [(5, .int .i64 (i : Int)), (0, .slice A ps.length c), (1, .slice B qs.length c2)]) (fun _ => []) 0 ⟨aI _, rfl⟩ (fun a w hs => J5 hs) ?_
 rintro i ⟨hi, ae⟩
 by_cases hlt : i < ps.length
 ·obtain ⟨ad, x, rfl, hx, hm⟩ := hS.get hlt
  obtain ⟨ad2, y, rfl, t, af⟩ := aw.get (show i < qs.length by omega)
  have nox := no hx t
  obtain ⟨x, xv⟩ := x
  obtain ⟨y, yv⟩ := y
  obtain ⟨A3, c3, z, hB, av⟩ := ak _ (aB hx)
  obtain ⟨A4, c4, r, al, ai⟩ := q _ (aB t)
  dsimp only at z r hB al av ai hm af nox
  subst z
  subst r
  have d : eM μ (ad.add (i * 5)) [.int .i64 x.up, .int .i64 x.fn, .int .i64 x.kind, .int .i64 x.at', .slice A3 x.names.length c3] := hm
  have f : eM μ (ad2.add (i * 5)) [.int .i64 y.up, .int .i64 y.fn, .int .i64 y.kind, .int .i64 y.at', .slice A4 y.names.length c4] := af
  try repeat' (refine KZ ?_)
  refine aT 65 ([]) (by kernel_rfl) rfl (by exact bE _) ?_
  all_goals (refine DD 0 ?_; refine DD 1 ?_; refine D2 2 rfl (by exact U1 i) ?_; refine DD 3 ?_; refine D2 4 rfl (by exact U4 d) ?_; refine DD 5 ?_; refine DD 6 ?_; refine D2 7 rfl (by exact U1 i) ?_; refine DD 8 ?_; refine D2 9 rfl (by exact U4 f) ?_; refine D1 10 ?_; refine DD 11 ?_)
  all_goals (try (refine D7 12 ?_; (repeat' (refine KB ?_ ?_ <;> intro hp))))
  all_goals (refine DD 12 ?_; refine DD 13 ?_; (first | refine D1 14 ?_ | (refine D2 14 rfl (by exact U1 i) ?_)); (first | refine D1 15 ?_ | refine DD 15 ?_); (first | refine D1 16 ?_ | (refine D2 16 rfl (by exact U4 d) ?_)); refine DD 17 ?_; refine DD 18 ?_; (first | refine D1 19 ?_ | (refine D2 19 rfl (by exact U1 i) ?_)); (first | refine D1 20 ?_ | refine DD 20 ?_); (first | refine D1 21 ?_ | (refine D2 21 rfl (by exact U4 f) ?_)); refine D1 22 ?_; refine DD 23 ?_; refine DD 24 ?_)
  all_goals (try (refine D7 25 ?_; (repeat' (refine KB ?_ ?_ <;> intro hp))))
  all_goals (refine DD 25 ?_; refine DD 26 ?_; (first | refine D1 27 ?_ | (refine D2 27 rfl (by exact U1 i) ?_)); (first | refine D1 28 ?_ | refine DD 28 ?_); (first | refine D1 29 ?_ | (refine D2 29 rfl (by exact U4 d) ?_)); refine DD 30 ?_; refine DD 31 ?_; (first | refine D1 32 ?_ | (refine D2 32 rfl (by exact U1 i) ?_)); (first | refine D1 33 ?_ | refine DD 33 ?_); (first | refine D1 34 ?_ | (refine D2 34 rfl (by exact U4 f) ?_)); refine D1 35 ?_; refine DD 36 ?_; refine DD 37 ?_)
  all_goals (try (refine D7 38 ?_; (repeat' (refine KB ?_ ?_ <;> intro hp))))
  all_goals (refine DD 38 ?_; refine DD 39 ?_; (first | refine D1 40 ?_ | (refine D2 40 rfl (by exact U1 i) ?_)); (first | refine D1 41 ?_ | refine DD 41 ?_); (first | refine D1 42 ?_ | (refine D2 42 rfl (by exact U4 d) ?_)); refine DD 43 ?_; refine DD 44 ?_; (first | refine D1 45 ?_ | (refine D2 45 rfl (by exact U1 i) ?_)); (first | refine D1 46 ?_ | refine DD 46 ?_); (first | refine D1 47 ?_ | (refine D2 47 rfl (by exact U4 f) ?_)); refine D1 48 ?_; refine DD 49 ?_; refine DD 50 ?_)
  all_goals (try (refine D7 51 ?_; (repeat' (refine KB ?_ ?_ <;> intro hp))))
  all_goals (refine DD 51 ?_; refine DD 52 ?_; (first | refine D1 53 ?_ | (refine D2 53 rfl (by exact U1 i) ?_)); (first | refine D1 54 ?_ | refine DD 54 ?_); (first | refine D1 55 ?_ | (refine D2 55 rfl (by exact U4 d) ?_)); refine D1 56 ?_; refine DD 57 ?_; refine DD 58 ?_; (first | refine D1 59 ?_ | (refine D2 59 rfl (by exact U1 i) ?_)); (first | refine D1 60 ?_ | refine DD 60 ?_); (first | refine D1 61 ?_ | (refine D2 61 rfl (by exact U4 f) ?_)); refine D1 62 ?_; refine D1 63 ?_; refine DD 64 ?_; refine D8 ?_)
  all_goals try repeat' (first | refine KZ ?_ | (refine KB ?_ ?_ <;> intro hp))
  all_goals first
   | exact aJ rfl rfl (congrArg _ (nox fun e => absurd (congrArg Sc.up e) (by assumption)))
   | exact aJ rfl rfl (congrArg _ (nox fun e => absurd (congrArg Sc.fn e) (by assumption)))
   | exact aJ rfl rfl (congrArg _ (nox fun e => absurd (congrArg Sc.kind e) (by assumption)))
   | exact aJ rfl rfl (congrArg _ (nox fun e => absurd (congrArg Sc.at' e) (by assumption)))
   | exact aJ rfl rfl (congrArg _ (nox fun e => absurd (congrArg (fun s : Sc => s.names.length) e) (by omega)))
   | skip
  have hu : x.up = y.up := by omega
  have ah : x.fn = y.fn := by omega
  have ag : x.kind = y.kind := by omega
  have aj : x.at' = y.at' := by omega
  have ax : x.names.length = y.names.length := by omega
  refine bW (ι := Nat) (fun j => j ≤ x.names.length ∧ x.names.take j = y.names.take j) (fun j => x.names.length - j) (fun _ => μ) (fun j => [(6, .int .i64 (j : Int)), (5, .int .i64 (i : Int)), (0, .slice (some ad) ps.length c), (1, .slice (some ad2) qs.length c2)]) (fun _ => []) 0 ⟨aI _, rfl⟩ (fun a w hs => J5 hs) ?_
  rintro j ⟨hj, k⟩
  by_cases au : j < x.names.length
  ·obtain ⟨ad3, u, rfl, ab, ar⟩ := hB.get au
   obtain ⟨ad4, v, rfl, aa, aq⟩ := al.get (show j < y.names.length by omega)
   have hq := aAk u v
   have o : eM μ (ad3.add (j * 4)) [.string u.name, .int .i64 u.kind, .bool u.held, .int .i64 u.slot] := ar
   have l : eM μ (ad4.add (j * 4)) [.string v.name, .int .i64 v.kind, .bool v.held, .int .i64 v.slot] := aq
   by_cases g : u = v
   ·rw [FY g] at hq
    try repeat' (first | refine KO ?_ | (refine KV (b := by first | exact U1 i | exact U4 d) (c := ?_)) | refine KZ ?_)
    refine aT 17 ([]) (by kernel_rfl) rfl (by exact bE _) ?_
    all_goals (refine DD 0 ?_; refine DD 1 ?_; refine D2 2 rfl (by exact U1 i) ?_; refine DD 3 ?_; refine D2 4 rfl (by exact U4 d) ?_; refine DD 5 ?_; refine D2 6 rfl (by exact U1 j) ?_; refine D2 7 rfl (by exact U4 o) ?_; refine DD 8 ?_; refine DD 9 ?_; refine D2 10 rfl (by exact U1 i) ?_; refine DD 11 ?_; refine D2 12 rfl (by exact U4 f) ?_; refine DD 13 ?_; refine D2 14 rfl (by exact U1 j) ?_; refine D2 15 rfl (by exact U4 l) ?_; refine DD 16 ?_; refine D8 ?_)
    all_goals rw [hq]
    all_goals try repeat' (refine KZ ?_)
    all_goals exact J2 (j + 1) ⟨by omega, OA k ab aa g⟩ (by omega)
   ·rw [CW g] at hq
    have hF := nox (fun e => g (get_eq (congrArg Sc.names e) ab aa))
    try repeat' (first | refine KO ?_ | (refine KV (b := by first | exact U1 i | exact U4 d) (c := ?_)) | refine KZ ?_)
    refine aT 17 ([]) (by kernel_rfl) rfl (by exact bE _) ?_
    all_goals (refine DD 0 ?_; refine DD 1 ?_; refine D2 2 rfl (by exact U1 i) ?_; refine DD 3 ?_; refine D2 4 rfl (by exact U4 d) ?_; refine DD 5 ?_; refine D2 6 rfl (by exact U1 j) ?_; refine D2 7 rfl (by exact U4 o) ?_; refine DD 8 ?_; refine DD 9 ?_; refine D2 10 rfl (by exact U1 i) ?_; refine DD 11 ?_; refine D2 12 rfl (by exact U4 f) ?_; refine DD 13 ?_; refine D2 14 rfl (by exact U1 j) ?_; refine D2 15 rfl (by exact U4 l) ?_; refine DD 16 ?_; refine D8 ?_)
    all_goals rw [hq]
    all_goals try repeat' (refine KZ ?_)
    all_goals exact aJ rfl rfl (congrArg _ hF)
  ·rw [aG (by omega), aG (by omega)] at k
   try repeat' (first | refine KO ?_ | (refine KV (b := by first | exact U1 i | exact U4 d) (c := ?_)) | refine KZ ?_)
   have an : x = y := by
    obtain ⟨x1, x2, x3, x4, x5⟩ := x
    obtain ⟨y1, y2, y3, y4, y5⟩ := y
    dsimp only at hu ah ag aj k
    rw [hu, ah, ag, aj, k]
   all_goals exact J2 (i + 1) ⟨by omega, OA ae (jB hx) (jB t) an⟩ (by omega)
 ·have hF : true = R := by
   rw [← hR]; symm
   refine FY ?_
   have h1 : (scs ps).length = ps.length := aH ..
   have h2 : (scs qs).length = qs.length := aH ..
   rwa [aG (by omega), aG (by omega)] at ae
  try repeat' (refine KZ ?_)
  exact aJ rfl rfl (congrArg _ hF)
end
section
open Go.RowKit Go.Vcg
def YR (l : List Bd) (k : Nat) (b : Bd) : Prop := b.name ≠ ⟨#[]⟩ ∧ fF b.name l 0 = some k ∧ 0 ≤ b.kind ∧ b.kind ≤ 7 ∧ b.kind ≠ 6
def aHb (i : Nat) (s : Sc) : Prop := 0 ≤ s.at' ∧ (0 < i → 0 ≤ s.up ∧ s.up < i ∧ 1 ≤ s.kind ∧ s.kind ≤ 5 ∧ 0 ≤ s.fn)
def aQp (l : List Sc) : Prop := ∃ s, l[0]? = some s ∧ s.kind = 0 ∧ s.up = -1 ∧ s.fn = 0
def KL (l : List Sc) : Prop := aQp l ∧ (∀ (i : Nat) (s : Sc), l[i]? = some s → aHb i s ∧ ∀ (k : Nat) (b : Bd), s.names[k]? = some b → YR s.names k b) ∧ l = kQ [] l
attribute [local irreducible] dP gN mF fF findF hI kQ nL G GC GQ GA eN Calls IntKind.wrap Int.decLt Int.decLe
end
section
open Go.RowKit Go.Vcg
def qB (us : List (Int × ByteArray × Int)) (l : List Sc) : List Sc := us.foldl (fun l u => match mC l u.1 u.2.1 with | some ab => if CO l ab.1 ≠ u.2.2 then wH l ab.1 ab.2 else l | none => l) l
theorem GO : ∀ (us : List Ux) (l0 l : List Sc), nZ l0 l → (∀ u ∈ us, KK l0 u) → xL us l = qB (us.map FV) l
 | [], _, _, _, _ => rfl
 | u :: r, l0, l, hs, hu => by
   have hk := hu u (aF ..)
   have hr : ∀ x ∈ r, KK l0 x := fun x a => hu x (cK a)
   have hf := MW hs u.u.scope u.u.name
   unfold xL qB
   rw [bY, aO, bY]
   cases hb : u.found with
   | false =>
     have h1 := (hk.no hb).1
     rw [← hf] at h1
     unfold FV
     dsimp only
     rw [h1, if_neg (by simp)]
     exact GO r l0 l hs hr
   | true =>
     have h1 := (hk.yes hb).1
     rw [← hf] at h1
     unfold FV
     dsimp only
     rw [h1]
     dsimp only
     by_cases hn : u.fn = CO l u.ts
     ·rw [if_neg (fun h => h.2 hn), if_neg (fun h => h hn.symm)]
      exact GO r l0 l hs hr
     ·rw [if_pos ⟨rfl, hn⟩, if_pos (fun h => hn h.symm)]
      exact GO r l0 _ (hs.trans (DJ l u.ts u.tb)) hr
def wO (t : T) : List Sc := kQ [] (qB (foldI (bM (jV t)) 0 t.size kL).us (foldI (bM (jV t)) 0 t.size kL).L)
theorem aGp {t : T} (b : t.op = 1) (a : rtB t 1 false = true) (f : Nat) (hf : t.size ≤ f) : wO t = sF (iA f t) := by
 obtain ⟨h1, h2, -⟩ := run_eq b a f hf
 unfold wO sF
 rw [h1, h2, GO _ _ _ (nZ.refl _) (VS f t).uses]
theorem DW : ∀ (l : List Bd) (h c : Nat), gN (hI h c l) = gN l
 | [], _, _ => rfl
 | b :: r, h, c => by
   unfold hI
   split
   ·rw [sV, sV, DW r]
   ·rw [sV, sV, DW r]
theorem DT : ∀ (l : List Bd) (h c : Nat), hI h c (hI h c l) = hI h c l
 | [], _, _ => rfl
 | b :: r, h, c => by
   by_cases hb : b.held = true
   ·rw [hI, if_pos hb, hI, if_pos hb, DT r]
   ·rw [hI, if_neg hb, hI, if_neg hb, DT r]
theorem RX : ∀ (l pre pre' : List Sc), (∀ fn, mF fn pre' = mF fn pre) → kQ pre' (kQ pre l) = kQ pre l
 | [], _, _, _ => rfl
 | s :: r, pre, pre', h => by
   have h1 : nL pre' (nL pre s) = nL pre s := by
    unfold nL
    dsimp only
    rw [h, DT]
   rw [kQ, kQ, h1, RX r (pre ++ [s]) (pre' ++ [nL pre s]) fun fn => by
    rw [tQ, tQ, h]
    show mF fn pre + mF fn [nL pre s] = mF fn pre + mF fn [s]
    unfold mF nL
    dsimp only
    rw [DW, mN]]
def NmP (l : List Bd) : Prop := (∀ b ∈ l, b.name ≠ ⟨#[]⟩ ∧ 0 ≤ b.kind ∧ b.kind ≤ 7 ∧ b.kind ≠ 6) ∧ (l.map (·.name)).Nodup
theorem sA : NmP [] := ⟨fun b hb => (by cases hb), nX⟩
theorem BI (x : ByteArray) (k : Int) : ∀ l : List Bd, (x ∈ l.map (·.name) → (jN x k l).map (·.name) = l.map (·.name)) ∧ (x ∉ l.map (·.name) → (jN x k l).map (·.name) = l.map (·.name) ++ [x])
 | [] => ⟨fun h => by simp at h, fun _ => rfl⟩
 | b :: r => by
   obtain ⟨h1, h2⟩ := BI x k r
   unfold jN
   by_cases h : b.name = x
   ·rw [if_pos h]
    refine ⟨fun _ => by split <;> rfl, fun hn => absurd (by rw [aO, h]; exact aF ..) hn⟩
   ·rw [if_neg h, aO, aO]
    refine ⟨fun hm => ?_, fun hn => ?_⟩
    ·rcases aW.1 hm with e | hm
     ·exact absurd e.symm h
     ·rw [h1 hm]
    ·rw [h2 fun hm => hn (cK hm)]
     rfl
theorem UQ {x : ByteArray} {k : Int} {P : Bd → Prop} (a : P ⟨x, k, false, 0⟩) (hk : ∀ b, P b → k = 3 → P { b with kind := k }) : ∀ l : List Bd, (∀ b ∈ l, P b) → ∀ b ∈ jN x k l, P b
 | [], _, b, hb => by
   rw [jN, aR] at hb
   subst hb
   exact a
 | b0 :: r, h, b, hb => by
   unfold jN at hb
   have h0 := h b0 (aF ..)
   have hr : ∀ b ∈ r, P b := fun b hb => h b (cK hb)
   split at hb
   ·split at hb
    ·rcases aW.1 hb with rfl | hb
     ·exact hk b0 h0 (by assumption)
     ·exact hr b hb
    ·exact h b hb
   ·rcases aW.1 hb with rfl | hb
    ·exact h0
    ·exact UQ a hk r hr b hb
theorem ZO {x : ByteArray} {k : Int} {l : List Bd} (h : NmP l) (c : x ≠ ⟨#[]⟩) (hk : 0 ≤ k ∧ k ≤ 5) : NmP (jN x k l) := by
 refine ⟨UQ (P := fun b => b.name ≠ ⟨#[]⟩ ∧ 0 ≤ b.kind ∧ b.kind ≤ 7 ∧ b.kind ≠ 6) ⟨c, hk.1, by dsimp only; omega, by dsimp only; omega⟩ (fun b hb e => ⟨hb.1, by dsimp only; omega, by dsimp only; omega, by dsimp only; omega⟩) l h.1, ?_⟩
 by_cases hn : x ∈ l.map (·.name)
 ·rw [(BI x k l).1 hn]
  exact h.2
 ·rw [(BI x k l).2 hn, List.nodup_append]
  refine ⟨h.2, List.nodup_cons.2 ⟨by simp, nX⟩, fun a d b hb e => ?_⟩
  rw [aR.1 hb] at e
  exact hn (e ▸ d)
theorem CC {k : Int} (hk : 0 ≤ k ∧ k ≤ 5) : ∀ (xs : List ByteArray) (l : List Bd), NmP l → (∀ x ∈ xs, x ≠ ⟨#[]⟩) → NmP (dU k xs l)
 | [], l, h, _ => h
 | x :: r, l, h, a => by
   unfold dU
   rw [bY]
   exact CC hk r _ (ZO h (a x (aF ..)) hk) fun y b => a y (cK b)
structure Vm (t : T) : Prop where
 nam : t.op = 34 → t.s ≠ ⟨#[]⟩
 at' : 0 ≤ t.at'
 vn : t.op = 2 → t.n = 0 ∨ t.n = 1 ∨ t.n = 2
 fd : t.op = 4 → jG t 1 = true → t.s ≠ ⟨#[]⟩
theorem aHh : Vm T.zero := ⟨fun h => absurd h (by decide), by decide, fun h => absurd h (by decide), fun h => absurd h (by decide)⟩
theorem IM (t : T) : eK Vm t → ∀ x ∈ bD t, x ≠ ⟨#[]⟩ := T.ind (p := fun t => eK Vm t → ∀ x ∈ bD t, x ≠ ⟨#[]⟩) (fun t ih h x b => by
 by_cases a : t.op = 34
 ·rw [tO a, aR] at b
  rw [b]
  exact h.here.nam a
 ·rw [qK a] at b
  obtain ⟨k, hk, b⟩ := List.mem_flatMap.1 b
  exact ih k (sN hk) (h.kid (sN hk)) x b) t
theorem NQ : eK Vm T.zero := .mk aHh fun k hk => by cases hk
theorem CZ {t : T} (h : eK Vm t) (i : Nat) : eK Vm (dM t i) := by
 unfold dM
 cases hk : t.kids[i]? with
 | none => exact NQ
 | some k => exact h.kid (aB hk)
theorem yT {α : Type} {g : List Bd → α → List Bd} : ∀ (xs : List α) (l : List Bd), NmP l → (∀ x ∈ xs, ∀ l, NmP l → NmP (g l x)) → NmP (xs.foldl g l)
 | [], _, h, _ => h
 | x :: r, l, h, hg => by
   rw [bY]
   exact yT r _ (hg x (aF ..) l h) fun y a => hg y (cK a)
theorem SF {t : T} (h : eK Vm t) (h2 : t.op = 2) {l : List Bd} (hl : NmP l) : NmP (eP t l) := by
 unfold eP
 refine yT _ _ hl fun d hd l hl => CC (by have := h.here.vn h2; omega) _ _ hl (IM _ (CZ (h.kid hd) 0))
theorem sJ {ks : List T} (h : ∀ k ∈ ks, eK Vm k) (b : Bool) {l : List Bd} (hl : NmP l) : NmP (bN ks b l) := by
 unfold bN
 refine yT _ _ hl fun t ht l hl => ?_
 split
 ·rename_i h2
  exact SF (h t ht) h2.1 hl
 ·split
  ·rename_i hb
   rw [aS] at hb
   have h4 : t.op = 4 := by
    have := hb.1
    unfold jG at this
    rw [aS] at this
    exact of_decide_eq_true this.1
   exact ZO hl ((h t ht).here.fd h4 hb.1) (by omega)
  ·exact hl
theorem MD {g : List Bd → Nat → List Bd} (hg : ∀ l i, NmP l → NmP (g l i)) : ∀ (m i : Nat) (l : List Bd), NmP l → NmP (foldI g i m l)
 | 0, _, _, h => h
 | m + 1, i, l, h => MD hg m (i + 1) _ (hg l i h)
def UW (E : List Fl) : Prop := ∀ e ∈ E, eK Vm e.t
theorem UW.at {E : List Fl} (h : UW E) (i : Nat) : eK Vm (dH E i).t := by
 unfold dH
 cases he : E[i]? with
 | none => exact NQ
 | some e => exact h e (aB he)
theorem aEt {E : List Fl} (h : UW E) (a : Nat) : NmP (PY E a) := by
 unfold PY
 refine MD (fun l i hl => ?_) _ _ _ (CC (by omega) _ _ sA (IM _ (CZ (h.at a) 0)))
 unfold gD
 have h1 : NmP (if (dH E i).fn = (dH E a).num then wM (dH E i).t l else l) := by
  split
  ·unfold wM
   split
   ·rename_i h2
    exact SF (h.at i) h2.1 hl
   ·exact hl
  ·exact hl
 dsimp only
 split
 ·exact sJ (fun k hk => by rw [aR.1 hk]; exact h.at i) true h1
 ·exact h1
theorem GG (l : List Bd) (k : Int) : (nN l k).1 = l := by unfold nN; split <;> rfl
theorem aMe {E : List Fl} (h : UW E) (i : Nat) : NmP (nmE E i).1 := by
 have a := h.at i
 unfold nmE
 dsimp only
 split
 ·exact sJ (fun k hk => a.kid hk) _ sA
 split
 ·exact aEt h i
 split
 ·rw [GG]
  split
  ·exact sJ (fun k hk => a.kid hk) _ sA
  ·exact sA
 split
 ·rw [GG]
  exact yT _ _ sA fun k hk l hl => sJ (fun x b => (a.kid (cD hk)).kid b) _ hl
 split
 ·rw [GG]
  exact sJ (fun k hk => by rw [aR.1 hk]; exact CZ a 0) _ sA
 split
 ·rw [GG]
  exact CC (by omega) _ _ sA (IM _ (CZ a 0))
 ·exact sA
def ScP (i : Nat) (s : Sc) : Prop := 0 ≤ s.at' ∧ (0 < i → 0 ≤ s.up ∧ s.up < i ∧ 1 ≤ s.kind ∧ s.kind ≤ 5 ∧ 0 ≤ s.fn) ∧ NmP s.names
structure Run (i : Nat) (s : RS) : Prop where
 li : s.ins.length = i
 lo : s.ops.length = i
 ps : ∀ (k : Nat) (c : Sc), s.L[k]? = some c → ScP k c
 hd : ∃ c, s.L[0]? = some c ∧ c.kind = 0 ∧ c.up = -1 ∧ c.fn = 0
 oi : ∀ (k : Nat) (o : Int), s.ops[k]? = some o → o < s.L.length ∧ (k = 0 → o = 0)
 ii : ∀ (k : Nat) (o : Int), s.ins[k]? = some o → o < s.L.length ∧ (0 < k → 0 ≤ o)
theorem xP {α : Type} {l : List α} {a b : α} {k : Nat} (h : (l ++ [a])[k]? = some b) : l[k]? = some b ∨ k = l.length ∧ b = a := by
 by_cases hk : k < l.length
 ·rw [aU hk] at h
  exact .inl h
 ·rw [aX (by omega)] at h
  by_cases h0 : k = l.length
  ·subst h0
   rw [dN] at h
   exact .inr ⟨rfl, by injection h with h; exact h.symm⟩
  ·have : ([a] : List α)[k - l.length]? = none := dL (by simp; omega)
   rw [this] at h
   cases h
theorem aEu {E : List Fl} {i : Nat} (h1 : (dH E i).t.op ≠ 1) : (nmE E i).2 < 0 ∨ (1 ≤ (nmE E i).2 ∧ (nmE E i).2 ≤ 4) := by
 have hs : ∀ (l : List Bd) (k : Int), (k = 2 ∨ k = 3 ∨ k = 4) → (nN l k).2 < 0 ∨ (1 ≤ (nN l k).2 ∧ (nN l k).2 ≤ 4) := fun l k hk => by
  unfold nN
  split
  ·exact .inl (show (-1 : Int) < 0 by decide)
  ·exact .inr (by dsimp only; omega)
 unfold nmE
 dsimp only
 rw [if_neg h1]
 split
 ·exact .inr (by dsimp only; omega)
 split
 ·exact hs _ _ (.inl rfl)
 split
 ·exact hs _ _ (.inl rfl)
 split
 ·exact hs _ _ (.inr (.inl rfl))
 split
 ·exact hs _ _ (.inr (.inr rfl))
 ·exact .inl (show (-1 : Int) < 0 by decide)
theorem aDu {E : List Fl} (hE : UW E) {i : Nat} {s : RS} (h : Run i s) (hi : 0 < i) (h1 : (dH E i).t.op ≠ 1) (z : 0 ≤ (dH E i).up ∧ (dH E i).up < i) (ad : (dH E 0).t.op ≠ 21) : Run (i + 1) (bM E s i) := by
 obtain ⟨c0, l, hh⟩ := h.hd
 have p : 0 < s.L.length := (List.getElem?_eq_some_iff.1 l).1
 have d : 0 ≤ inG E s.ins s.ops (dH E i).up (dH E i).kid ∧ inG E s.ins s.ops (dH E i).up (dH E i).kid < s.L.length := by
  unfold inG
  rw [if_pos z.1]
  obtain ⟨o, ho⟩ : ∃ o, s.ops[(dH E i).up.toNat]? = some o := ⟨_, aA (by rw [h.lo]; omega)⟩
  obtain ⟨v, hv⟩ : ∃ v, s.ins[(dH E i).up.toNat]? = some v := ⟨_, aA (by rw [h.li]; omega)⟩
  rw [ho, hv]
  simp only [jH]
  have o1 := h.oi _ _ ho
  have o2 := h.ii _ _ hv
  by_cases h0 : (dH E i).up.toNat = 0
  ·have := o1.2 h0
   rw [h0, if_neg (by rintro (h | h); omega; exact ad h.1)]
   omega
  ·have := o2.2 (by omega)
   split
   ·omega
   ·rename_i hc
    have : ¬ o < 0 := fun h => hc (.inl h)
    omega
 obtain ⟨in0, u⟩ : ∃ x, inG E s.ins s.ops (dH E i).up (dH E i).kid = x := ⟨_, rfl⟩
 have q := aMe hE i
 have j := aEu (E := E) (i := i) h1
 have w := (hE.at i).here.at'
 unfold bM
 dsimp only
 rw [u] at d ⊢
 generalize hr : nmE E i = r at q j ⊢
 by_cases g : r.2 < 0
 ·rw [if_pos g]
  refine ⟨by simp [h.li], by simp [h.lo], h.ps, h.hd, fun k o ho => ?_, fun k o ho => ?_⟩
  ·rcases xP ho with ho | ⟨hk, rfl⟩
   ·exact h.oi k o ho
   ·rw [h.lo] at hk
    exact ⟨by dsimp only; omega, fun h => by omega⟩
  ·rcases xP ho with ho | ⟨hk, rfl⟩
   ·exact h.ii k o ho
   ·exact ⟨d.2, fun _ => d.1⟩
 ·rw [if_neg g]
  have j : 1 ≤ r.2 ∧ r.2 ≤ 4 := j.resolve_left g
  obtain ⟨fn, ab⟩ : ∃ fn : Nat, (if (dH E i).t.op = 4 then ((dH E i).num : Int) else ((dH E i).fn : Int)) = (fn : Int) := by split <;> exact ⟨_, rfl⟩
  rw [ab]
  have push : ∀ {L : List Sc} {c : Sc}, (∀ (k : Nat) (c : Sc), L[k]? = some c → ScP k c) → ScP L.length c → ∀ (k : Nat) (x : Sc), (L ++ [c])[k]? = some x → ScP k x := fun hL hc k x y => by
   rcases xP y with y | ⟨rfl, rfl⟩
   ·exact hL k x y
   ·exact hc
  obtain ⟨L1, f⟩ : ∃ x, (if nF (dH E i).t = true then s.L ++ [(⟨in0, (fn : Int), 5, (dH E i).t.at', [⟨(dH E i).t.s, 7, false, 0⟩]⟩ : Sc)] else s.L) = x := ⟨_, rfl⟩
  obtain ⟨in1, a⟩ : ∃ x, (if nF (dH E i).t = true then (s.L.length : Int) else in0) = x := ⟨_, rfl⟩
  rw [f, a]
  have aa : (∀ (k : Nat) (c : Sc), L1[k]? = some c → ScP k c) ∧ L1[0]? = some c0 ∧ s.L.length ≤ L1.length ∧ 0 ≤ in1 ∧ in1 < L1.length := by
   cases e : nF (dH E i).t with
   | false =>
     rw [e, if_neg (by simp)] at f a
     subst f a
     exact ⟨h.ps, l, aD _, d⟩
   | true =>
     rw [e, if_pos rfl] at f a
     subst f a
     unfold nF at e
     rw [aS, aS] at e
     have hne : (dH E i).t.s ≠ ⟨#[]⟩ := by simpa using e.2.1
     refine ⟨push h.ps ⟨w, fun _ => ⟨d.1, d.2, by dsimp only; omega, by dsimp only; omega, by dsimp only; omega⟩, ?_⟩, by rw [aU p]; exact l, by simp, by omega, by simp; omega⟩
     exact ⟨fun b hb => by rw [aR.1 hb]; exact ⟨hne, by dsimp only; omega, by dsimp only; omega, by dsimp only; omega⟩, by simp⟩
  obtain ⟨p1, p2, p3, p4, p5⟩ := aa
  refine ⟨by simp [h.li], by simp [h.lo], push p1 ⟨w, fun _ => ⟨p4, p5, by dsimp only; omega, by dsimp only; omega, by dsimp only; omega⟩, q⟩, ⟨c0, by rw [aU (by omega)]; exact p2, hh⟩, fun k o ho => ?_, fun k o ho => ?_⟩
  ·rw [aK, cT]
   rcases xP ho with ho | ⟨hk, rfl⟩
   ·have := h.oi k o ho
    exact ⟨by omega, this.2⟩
   ·rw [h.lo] at hk
    exact ⟨by omega, fun h => by omega⟩
  ·rw [aK, cT]
   rcases xP ho with ho | ⟨hk, rfl⟩
   ·have := h.ii k o ho
    exact ⟨by omega, this.2⟩
   ·exact ⟨by omega, fun _ => d.1⟩
theorem LO {E : List Fl} (c : UW E) (a : (dH E 0).t.op ≠ 21) : ∀ (m i : Nat) (s : RS), Run i s → 0 < i → (∀ x, i ≤ x → x < i + m → (dH E x).t.op ≠ 1 ∧ 0 ≤ (dH E x).up ∧ (dH E x).up < x) → Run (i + m) (foldI (bM E) i m s)
 | 0, _, _, h, _, _ => h
 | m + 1, i, s, h, hi, b => by
   have h0 := b i (aD _) (by omega)
   rw [foldI, show i + (m + 1) = (i + 1) + m by omega]
   exact LO c a m (i + 1) _ (aDu c h hi h0.1 h0.2 a) (by omega) fun x h1 h2 => b x (by omega) (by omega)
theorem aNy {t : T} {d : Nat} {s : Bool} (h : Rt t d s) : Vm t := by
 have a := SU h
 cases h with
 | mk hd hn hk hr =>
   obtain ⟨-, hf, -⟩ := hn
   unfold lZ at hf
   have hb : zO t = false := by
    cases hb : zO t with
    | false => rfl
    | true => rw [hb, if_pos rfl] at hf; cases hf
   have hne : ∀ {x : ByteArray}, jU x = true → x ≠ ⟨#[]⟩ := fun {x} c e => by
    subst e
    unfold jU at c
    exact (CX c).1 rfl
   rw [hb, if_neg (by simp)] at hf
   refine ⟨fun f => ?_, ?_, a.vn, fun h4 b => ?_⟩
   ·rw [if_neg (by omega), aS] at hf
    have hw := hf.2
    unfold mT at hw
    rw [if_neg (by omega), if_pos (by omega)] at hw
    exact hne hw
   ·unfold zO at hb
    rw [Bool.or_eq_false_iff] at hb
    have := of_decide_eq_false hb.1
    omega
   ·rw [if_pos h4] at hf
    unfold wK at hf
    split at hf
    ·cases hf
    split at hf
    ·cases hf
    rw [if_pos (show fT t 1 = true from b)] at hf
    exact of_decide_eq_true hf
theorem aKh (t : T) : ∀ (d : Nat) (s : Bool), Rt t d s → eK Vm t := T.XA (p := fun t => ∀ (d : Nat) (s : Bool), Rt t d s → eK Vm t) (fun t ih d s h => by
 refine .mk (aNy h) fun k hk => ?_
 obtain ⟨i, hi⟩ := List.mem_iff_getElem?.1 hk
 cases h with
 | mk _ _ _ hr => exact ih k hk _ _ (hr i k hi)) t
theorem AY {p : T → Prop} {f : T → Int → Nat → Nat → Nat → Nat → List Fl} : ∀ (ks : List T) (pa : Int) (j fn i c : Nat), (∀ k ∈ ks, ∀ pa j fn i c, ∀ e ∈ f k pa j fn i c, p e.t) → ∀ e ∈ gP f ks pa j fn i c, p e.t
 | [], _, _, _, _, _, _, e, he => by cases he
 | k :: r, pa, j, fn, i, c, h, e, he => by
   rw [gP] at he
   rcases List.mem_append.1 he with he | he
   ·exact h k (aF ..) _ _ _ _ _ e he
   ·exact AY r _ _ _ _ _ (fun k hk => h k (cK hk)) e he
theorem zB {p : T → Prop} (a : ∀ t k, p t → k ∈ t.kids → p k) : ∀ (n : Nat) (t : T) (up : Int) (kid fn i c : Nat), p t → ∀ e ∈ gJ n t up kid fn i c, p e.t
 | 0, _, _, _, _, _, _, _, e, he => by cases he
 | n + 1, t, up, kid, fn, i, c, h, e, he => by
   rw [gJ] at he
   rcases aW.1 he with rfl | he
   ·exact h
   ·exact AY t.kids _ _ _ _ _ (fun k hk pa j fn i c e he => zB a n k pa j fn i c (a t k h hk) e he) e he
theorem aDc {t : T} (h : eK Vm t) (n : Nat) (up : Int) (kid fn i c : Nat) : UW (gJ n t up kid fn i c) := fun e he => zB (p := eK Vm) (fun t k h hk => h.kid hk) n t up kid fn i c h e he
theorem aBa {t : T} (r : t.op = 1) (q : rtB t 1 false = true) : Run t.size (foldI (bM (jV t)) 0 t.size kL) := by
 have z := iJ q
 have hm := aKh t _ _ z
 have hE : UW (jV t) := aDc hm _ _ _ _ _ _
 have f := bA t
 obtain ⟨n, hn⟩ : ∃ n, t.size = n + 1 := ⟨t.size - 1, by omega⟩
 have w : AtG (jV t) (n + 1) t (-1) 0 0 0 0 := ⟨[], [], by unfold jV; rw [hn]; simp, rfl, rfl⟩
 have g : ∀ e ∈ gP (gJ n) t.kids 0 0 0 1 0, e.t.op ≠ 1 := fun e he => by
  have := AY (p := eK Vn) t.kids 0 0 0 1 0 (fun k hk pa j fn i c e he => zB (p := eK Vn) (fun t k h hk => h.kid hk) n k pa j fn i c (ZV z k hk) e he) e he
  exact this.here.pr
 have v : jV t = ⟨t, -1, 0, 0, 0, t.size - 1⟩ :: gP (gJ n) t.kids 0 0 0 1 0 := by
  unfold jV
  conv => lhs; rw [hn]
  rw [gJ]
  unfold uH lK
  simp only [if_neg (show ¬t.op = 4 by omega), bB]
  rfl
 have he := w.eat
 have a := w.kids
 unfold uH lK at a
 simp only [if_neg (show ¬t.op = 4 by omega)] at a
 have b : ∀ x, 1 ≤ x → x < 1 + szs t.kids → (dH (jV t) x).t.op ≠ 1 ∧ 0 ≤ (dH (jV t) x).up ∧ (dH (jV t) x).up < x := fun x h1 h2 => by
  obtain ⟨e, hex, l, -⟩ := a.ent (fun k hk => jM (by omega) hk) ⟨h1, h2⟩
  have hx : dH (jV t) x = e := by unfold dH; rw [hex]; rfl
  rw [hx]
  refine ⟨?_, by rcases l with h | h <;> omega⟩
  rw [v] at hex
  obtain ⟨y, rfl⟩ : ∃ y, x = y + 1 := ⟨x - 1, by omega⟩
  rw [bG] at hex
  exact g e (aB hex)
 generalize jV t = E at w he a hE b
 have u : nmE E 0 = (bN t.kids false [], 0) := by
  unfold nmE
  rw [he]
  dsimp only
  rw [if_pos r]
 have hu : tC E 0 = false := NW he (by dsimp only; omega) (fun h => absurd h.1 (by dsimp only; omega))
 have d : nF t = false := by unfold nF; rw [decide_eq_false (by omega)]; rfl
 have key : bM E kL 0 = ⟨[⟨-1, 0, 0, t.at', bN t.kids false []⟩], [-1], [0], []⟩ := by
  unfold bM
  rw [he]
  dsimp only
  rw [hu, u, d, if_neg (show ¬t.op = 4 by omega), if_neg (show ¬((0 : Int) < 0) by decide)]
  rfl
 have h1 : Run 1 (bM E kL 0) := by
  rw [key]
  refine ⟨rfl, rfl, fun k c hc => ?_, ⟨_, rfl, rfl, rfl, rfl⟩, fun k o ho => ?_, fun k o ho => ?_⟩
  ·have hk : k = 0 := by have := (List.getElem?_eq_some_iff.1 hc).1; simpa using this
   subst hk
   have hc : some _ = some c := hc
   cases hc
   exact ⟨hm.here.at', fun h => absurd h (by omega), sJ (fun k hk => hm.kid hk) _ sA⟩
  ·have hk : k = 0 := by have := (List.getElem?_eq_some_iff.1 ho).1; simpa using this
   subst hk
   have ho : some (0 : Int) = some o := ho
   cases ho
   exact ⟨by simp, fun _ => rfl⟩
  ·have hk : k = 0 := by have := (List.getElem?_eq_some_iff.1 ho).1; simpa using this
   subst hk
   have ho : some (-1 : Int) = some o := ho
   cases ho
   exact ⟨by simp, fun h => absurd h (by omega)⟩
 have e : foldI (bM E) 0 t.size kL = foldI (bM E) 1 (szs t.kids) (bM E kL 0) := by rw [f, lC, foldI, foldI]
 rw [e, f]
 exact LO hE (by rw [he]; dsimp only; omega) (szs t.kids) 1 _ h1 (by omega) b
def AJ (l l' : List Sc) : Prop := l.length = l'.length ∧ ∀ (i : Nat) (c c' : Sc), l[i]? = some c → l'[i]? = some c' → c'.up = c.up ∧ c'.fn = c.fn ∧ c'.kind = c.kind ∧ c'.at' = c.at' ∧ c'.names.map nk = c.names.map nk
theorem AJ.refl (l : List Sc) : AJ l l := ⟨rfl, fun i c c' h a => by rw [h] at a; cases a; exact ⟨rfl, rfl, rfl, rfl, rfl⟩⟩
theorem AJ.trans {a b c : List Sc} (h : AJ a b) (f : AJ b c) : AJ a c := ⟨h.1.trans f.1, fun i x z e g => by
 obtain ⟨y, d⟩ : ∃ y, b[i]? = some y := ⟨_, aA (by have := (List.getElem?_eq_some_iff.1 e).1; rw [← h.1]; exact this)⟩
 obtain ⟨h1, h2, h3, h4, h5⟩ := h.2 i x y e d
 obtain ⟨g1, g2, g3, g4, g5⟩ := f.2 i y z d g
 exact ⟨g1.trans h1, g2.trans h2, g3.trans h3, g4.trans h4, g5.trans h5⟩⟩
theorem VQ (l : List Sc) (a b : Nat) : AJ l (wH l a b) := by
 unfold wH
 refine ⟨by rw [List.length_modify], fun i c c' h d => ?_⟩
 rw [hG, h] at d
 split at d
 ·cases d
  exact ⟨rfl, rfl, rfl, rfl, zW c.names b⟩
 ·cases d
  exact ⟨rfl, rfl, rfl, rfl, rfl⟩
theorem vG : ∀ (us : List (Int × ByteArray × Int)) (l : List Sc), AJ l (qB us l)
 | [], l => AJ.refl l
 | u :: r, l => by
   unfold qB
   rw [bY]
   cases mC l u.1 u.2.1 with
   | none => exact vG r l
   | some ab =>
     dsimp only
     split
     ·exact (VQ l _ _).trans (vG r _)
     ·exact vG r l
theorem aA8 (l : List Sc) : AJ l (kQ [] l) := by
 refine ⟨(xB l []).symm, fun i c c' h a => ?_⟩
 rw [yS, h] at a
 cases a
 exact ⟨rfl, rfl, rfl, rfl, CB _ _ _⟩
theorem CA {x : ByteArray} : ∀ (l : List Bd) (k j : Nat) (b : Bd), l[j]? = some b → b.name = x → (∀ i c, i < j → l[i]? = some c → c.name ≠ x) → fF x l k = some (k + j)
 | [], _, _, _, h, _, _ => by simp at h
 | a :: r, k, 0, b, h, d, _ => by
   have h : some a = some b := h
   cases h
   unfold fF
   rw [if_pos d]
   rfl
 | a :: r, k, j + 1, b, h, d, hn => by
   rw [bG] at h
   unfold fF
   rw [if_neg (hn 0 a (by omega) rfl), CA r (k + 1) j b h d fun i c hi hc => hn (i + 1) c (by omega) (by rw [bG]; exact hc)]
   congr 1
   omega
theorem aKa {l l' : List Bd} (h : NmP l) (e : l'.map nk = l.map nk) (k : Nat) (b : Bd) (hb : l'[k]? = some b) : YR l' k b := by
 have get : ∀ {i : Nat} {c : Bd}, l'[i]? = some c → ∃ c0, l[i]? = some c0 ∧ c0.name = c.name ∧ c0.kind = c.kind := fun {i c} hc => by
  have h1 := congrArg (fun x => x[i]?) e
  simp only [aN, hc, dY] at h1
  cases h0 : l[i]? with
  | none => rw [h0] at h1; cases h1
  | some c0 =>
    rw [h0] at h1
    simp only [dY, aM] at h1
    exact ⟨c0, rfl, congrArg Prod.fst h1.symm, congrArg Prod.snd h1.symm⟩
 obtain ⟨b0, f, hn, hk⟩ := get hb
 have h1 := h.1 b0 (aB f)
 rw [hn, hk] at h1
 refine ⟨h1.1, ?_, h1.2⟩
 rw [CA l' 0 k b hb rfl fun i c hi hc g => ?_, bB]
 obtain ⟨c0, j, d, -⟩ := get hc
 have e1 : (l.map (·.name))[i]? = some c0.name := by rw [aN, j]; rfl
 have e2 : (l.map (·.name))[k]? = some b0.name := by rw [aN, f]; rfl
 obtain ⟨l1, e1⟩ := List.getElem?_eq_some_iff.1 e1
 obtain ⟨l2, e2⟩ := List.getElem?_eq_some_iff.1 e2
 have a := List.pairwise_iff_getElem.1 h.2 i k l1 l2 hi
 rw [e1, e2, d, hn] at a
 exact a g
theorem aC3 {t : T} (f : t.op = 1) (e : rtB t 1 false = true) : KL (wO t) := by
 have g := aBa f e
 unfold wO
 generalize foldI (bM (jV t)) 0 t.size kL = s at g
 have hs := (vG s.us s.L).trans (aA8 _)
 have d : kQ [] (qB s.us s.L) = kQ [] (kQ [] (qB s.us s.L)) := (RX _ [] [] fun _ => rfl).symm
 generalize kQ [] (qB s.us s.L) = l at hs d
 have get : ∀ {i : Nat} {c : Sc}, l[i]? = some c → ∃ c0, s.L[i]? = some c0 := fun {i c} hc => ⟨_, aA (by rw [hs.1]; exact (List.getElem?_eq_some_iff.1 hc).1)⟩
 refine ⟨?_, fun i c hc => ?_, d⟩
 ·obtain ⟨c0, a, h1, h2, h3⟩ := g.hd
  obtain ⟨c, hc⟩ : ∃ c, l[0]? = some c := ⟨_, aA (by rw [← hs.1]; exact (List.getElem?_eq_some_iff.1 a).1)⟩
  obtain ⟨g1, g2, g3, g4, g5⟩ := hs.2 0 c0 c a hc
  exact ⟨c, hc, g3.trans h1, g1.trans h2, g2.trans h3⟩
 ·obtain ⟨c0, a⟩ := get hc
  obtain ⟨g1, g2, g3, g4, g5⟩ := hs.2 i c0 c a hc
  obtain ⟨p1, p2, p3⟩ := g.ps i c0 a
  exact ⟨⟨by rw [g4]; exact p1, fun h => by rw [g1, g2, g3]; exact p2 h⟩, fun k b hb => aKa p3 g5 k b hb⟩
end
end Go.Proofs.YtlllalmkkaolfaaGreatDoor
