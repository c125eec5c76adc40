/- Package scope's reference: rows of flat nodes; lay. -/
import Derived.Test.YtlllalmkkaolfaaGreatDoorQas
set_option maxRecDepth 20000
set_option maxHeartbeats 2000000
namespace Go.Vcg
open Go.RowKit
section
variable {P : Program} {μ : Mem} {l : bP} {L : List Bk}
variable {ty : TypeId} {pos : String} {af : Array Edge} {gd : Option (Nat × Bool)} {ds : Option Nat}
theorem BN {x : Operand} {v : Value} {t : TypeId} {g n cap o1 o2 o3 : Nat} {e s : TypeId} {xs : List Value} (i : Nat) (a : oI P t = some false)
 (hi : gT L i = some (.inr ⟨.slice (some ⟨g, 0, none⟩) n cap, e, s, n, xs⟩)) (b : ev l x = some (.pointer (some (((Addr.add ⟨g, 0, none⟩ o1).add o2).add o3)))) (hv : xs[o1 + (o2 + o3)]? = some v) : Val P μ l L ⟨ds, .load t x, ty, pos, af, gd⟩ v :=
 oW i a hi (b.trans (by rw [mX, mX])) hv
end
end Go.Vcg
namespace Go.Proofs.YtlllalmkkaolfaaGreatDoor
section
open Go.RowKit Go.Vcg
def oH (p : Fl × Value) : List Value := aY p.1.t p.2 ++ [.int .i64 p.1.up, .int .i64 (p.1.kid : Int), .int .i64 (p.1.fn : Int), .int .i64 (p.1.num : Int), .int .i64 (p.1.last : Int)]
theorem zE (p : Fl × Value) : (oH p).length = 11 := rfl
theorem MY (xs : List (Fl × Value)) : (xs.flatMap oH).length = xs.length * 11 := by
 induction xs with
 | nil => rfl
 | cons x r ih => rw [bU, aK, ih, zE, bF]; omega
theorem yM {es : List (Fl × Value)} {i k : Nat} {e : Fl × Value} {v : Value} (he : es[i]? = some e) (hk : k < 11) (hv : (oH e)[k]? = some v) : (es.flatMap oH)[i * 11 + k]? = some v := by rw [kR zE es i k e he hk, hv]
theorem aEb {es : List (Fl × Value)} {i : Nat} {e : Fl × Value} (he : es[i]? = some e) (j : Nat) (v : Value) (hv : (oH e)[j]? = some v) : (es.flatMap oH)[i * 11 + j]? = some v := yM he (List.getElem?_eq_some_iff.1 hv).1 hv
def KP (μ : Mem) (es : List (Fl × Value)) : Prop := ∀ e ∈ es, KR μ e.1.t.kids e.2
theorem KP.mono {μ μ' : Mem} {es : List (Fl × Value)} (h : KP μ es) (hle : MLe μ μ') : KP μ' es := fun e he => (h e he).mono hle
theorem KP.app {μ : Mem} {es fs : List (Fl × Value)} (h : KP μ es) (a : KP μ fs) : KP μ (es ++ fs) := fun e he => (List.mem_append.1 he).elim (h e) (a e)
theorem KP.set {μ : Mem} {es : List (Fl × Value)} {i : Nat} {e' : Fl × Value} (h : KP μ es) (hk : KR μ e'.1.t.kids e'.2) : KP μ (es.set i e') := fun x a => by
 rcases List.mem_or_eq_of_mem_set a with a | rfl
 ·exact h x a
 ·exact hk
def wU (i : Value × List (Fl × Value)) : List Bk := [.inr ⟨i.1, 77, 11, i.2.length, i.2.flatMap oH⟩]
section
variable {P : Program} {X : Ctx} {ops : Array Oper} {Q : Exit → Act → World → Prop} {rest : List Oper} {μ : Mem} {l : bP} {L : List Bk}
variable {ty : TypeId} {pos : String} {af : Array Edge} {gd : Option (Nat × Bool)} {ds : Option Nat}
theorem LJ {x : Operand} {t : TypeId} {j g cap m e0 : Nat} {es : List (Fl × Value)} (i : Nat) {e : Fl × Value} (he : es[j]? = some e) (b : oI P t = some true) (a : iO P t = some 11)
 (hi : gT L i = some (.inr ⟨.slice (some ⟨g, 0, none⟩) m cap, e0, 11, m, es.flatMap oH⟩)) (c : ev l x = some (.pointer (some (Addr.add ⟨g, 0, none⟩ (j * 11))))) :
 Val P μ l L ⟨ds, .load t x, ty, pos, af, gd⟩ (.agg (oH e).toArray) :=
 rI (vs := oH e) i b a hi c rfl (aEb he)
theorem PD {x q : Operand} {t : TypeId} {j g cap m e0 : Nat} {es : List (Fl × Value)} {y : Int} (i k : Nat) {e e' : Fl × Value} (he : es[j]? = some e) (hk : k < 11) (b : oH e' = (oH e).take k ++ [.int .i64 y] ++ (oH e).drop (k + 1)) (hw : gQ ops l ⟨none, .store t q x, ty, pos, af, gd⟩ = some true) (a : iO P t = some 1)
 (hi : gT L i = some (.inr ⟨.slice (some ⟨g, 0, none⟩) m cap, e0, 11, m, es.flatMap oH⟩)) (d : ev l q = some (.pointer (some ((Addr.add ⟨g, 0, none⟩ (j * 11)).add k)))) (c : ev l x = some (.int .i64 y))
 (h : G P X ops Q rest μ l (fD L i (.inr ⟨.slice (some ⟨g, 0, none⟩) m cap, e0, 11, m, (es.set j e').flatMap oH⟩))) : G P X ops Q (⟨none, .store t q x, ty, pos, af, gd⟩ :: rest) μ l L := by
 refine kW i hw a hi d c rfl rfl ?_ ?_
 ·rw [MY]
  have := (List.getElem?_eq_some_iff.1 he).1
  omega
 ·rw [show (Value.int .i64 y).cells.toList = [.int .i64 y] from rfl, nT zE (vs := [.int .i64 y]) (k := k) (n := 1) (by omega) es j e he b]
  exact h
end
def zf (e : Fl) : Fl := { e with fn := 0, num := 0 }
theorem uT {f : T → Int → Nat → Nat → Nat → Nat → List Fl} (hf : ∀ t up kid fn i c fn' c', (f t up kid fn i c).map zf = (f t up kid fn' i c').map zf) : ∀ (ks : List T) (pa : Int) (j fn i c fn' c' : Nat), (gP f ks pa j fn i c).map zf = (gP f ks pa j fn' i c').map zf
 | [], _, _, _, _, _, _, _ => rfl
 | k :: r, pa, j, fn, i, c, fn', c' => by rw [gP, gP, bI, bI, hf k pa j fn i c fn' c', uT hf r (pa) (j + 1) fn (i + k.size) _ fn' _]
theorem CQ : ∀ (n : Nat) (t : T) (up : Int) (kid fn i c fn' c' : Nat), (gJ n t up kid fn i c).map zf = (gJ n t up kid fn' i c').map zf
 | 0, _, _, _, _, _, _, _, _ => rfl
 | n + 1, t, up, kid, fn, i, c, fn', c' => by
   rw [gJ, gJ, aO, aO, uT (CQ n) t.kids i 0 (uH t fn c) (i + 1) (lK t c) (uH t fn' c') (lK t c')]
   rfl
def OU (n : Nat) (t : T) (up : Int) (kid i : Nat) : List Fl := (gJ n t up kid 0 i 0).map zf
def xI (n : Nat) (ks : List T) (pa : Int) (j i : Nat) : List Fl := (gP (gJ n) ks pa j 0 i 0).map zf
theorem aB3 (n : Nat) (t : T) (up : Int) (kid i : Nat) : OU (n + 1) t up kid i = ⟨t, up, kid, 0, 0, i + t.size - 1⟩ :: xI n t.kids i 0 (i + 1) := by
 unfold OU xI
 rw [gJ, aO, uT (CQ n) t.kids i 0 (uH t 0 0) (i + 1) (lK t 0) 0 0]
 rfl
theorem IS (n : Nat) (k : T) (pa : Int) : ∀ (ks : List T) (j i : Nat), xI n (ks ++ [k]) pa j i = xI n ks pa j i ++ OU n k pa (j + ks.length) (i + szs ks)
 | [], j, i => by
   unfold xI OU
   simp [gP, szs]
 | x :: r, j, i => by
   have ih := IS n k pa r (j + 1) (i + x.size)
   unfold xI at ih ⊢
   rw [aL, gP, gP, bI, bI, uT (CQ n) (r ++ [k]) pa (j + 1) 0 (i + x.size) _ 0 0, ih, uT (CQ n) r pa (j + 1) 0 (i + x.size) (0 + lW (gJ n x pa j 0 i 0)) 0 0, bO, bF, cO, show j + 1 + r.length = j + (r.length + 1) by omega, show i + x.size + szs r = i + (x.size + szs r) by omega]
theorem aB2 (n : Nat) (ks : List T) (pa : Int) (j i : Nat) (h : ∀ k ∈ ks, k.size ≤ n) : (xI n ks pa j i).length = szs ks := by
 unfold xI
 rw [aH, vV ks _ _ _ _ _ fun k hk _ _ _ _ _ => qP n k _ _ _ _ _ (h k hk)]
theorem HC {ks : List T} {j : Nat} {k : T} (h : ks[j]? = some k) : szs (ks.take (j + 1)) = szs (ks.take j) + k.size := by
 rw [bQ, h]
 simp [szs]
def aQo (n : Nat) (t : T) (up : Int) (kid : Nat) (es : List (Fl × Value)) (μ : Mem) (v : Value) (i : Value × List (Fl × Value)) : Prop := v = i.1 ∧ i.2.map (·.1) = es.map (·.1) ++ OU n t up kid es.length ∧ KP μ i.2
attribute [local irreducible] OU xI gJ G GC GQ GA eN GI GCI Calls IntKind.wrap Int.decLt Int.decLe
theorem aE6 : ∀ (n : Nat), n ≤ 100001 → ∀ (t : T) (u : Value) (up : Int) (kid : Nat) (v0 : Value) (es : List (Fl × Value)) (w : World) (μ : Mem), MOk μ w → Go.Vcg.Own μ (wU (v0, es)) w → t.size ≤ n → KR μ t.kids u → KP μ es → es.length + t.size ≤ 200002 →
 Calls Tryz.prog 50 #[v0, .agg (aY t u).toArray, .int .i64 up, .int .i64 (kid : Int)] w fun e w' => ∃ (v : Value) (μ' : Mem) (i : Value × List (Fl × Value)), e = .returned v ∧ lT (kI (wU (v0, es))) w w' μ (wU i) μ' ∧ aQo n t up kid es μ' v i := by
 intro n
 induction n with
 | zero => intro _ t u up kid v0 es w μ _ _ hn; exact absurd hn (by rw [T.size_eq]; omega)
 | succ n ih =>
   intro a8 t u up kid v0 es w μ hμ hO hn hk ar bb
   have a6 := bA t
   have al := dJ hO.diff
   have hlen := gR t.kids
   obtain ⟨A, c, rfl, ba, ai⟩ := hk.form
   refine cC (args := [v0, .agg (aY t (.slice A t.kids.length c)).toArray, .int .i64 up, .int .i64 (kid : Int)]) Tryz.func50 rfl Tryz.ntmps50 (by simp) hμ hO ?_
   unfold wU
   dsimp only
   refine fW 0 rfl ?_
   rintro A0 c0 rfl a1
   try repeat' (first | refine KZ ?_ | (((with_reducible apply oZ); (iterate 3 exact rfl); (repeat first | with_reducible exact fE | with_reducible apply fV); (iterate 6 exact rfl); (((with_reducible apply jS); exact rfl; (repeat with_reducible exact fO); exact rfl)); exact rfl; exact gB (by (repeat first | with_reducible exact fS | ((with_reducible apply eY); exact rfl))); omega; omega; intro v)) | refine NB fun b => ?_)
   rename_i bp
   refine bW (ι := Value × List (Fl × Value) × Nat × Mem) (fun j => j.2.2.1 ≤ t.kids.length ∧ MLe μ j.2.2.2 ∧ KP j.2.2.2 j.2.1 ∧ j.2.1.map (·.1) = es.map (·.1) ++ ⟨t, up, kid, 0, 0, 0⟩ :: xI n (t.kids.take j.2.2.1) es.length 0 (es.length + 1)) (fun j => t.kids.length - j.2.2.1) (fun j => j.2.2.2)
    (fun j => [(0, j.1), (5, .pointer (some ⟨bp, 0, none⟩)), (9, .int .i64 es.length), (10, .int .i64 j.2.2.1)]) (fun j => wU (j.1, j.2.1) ++ [.inl ⟨bp, 24, 6, idx 0 (aY t (.slice A t.kids.length c))⟩])
    (v, es ++ [(⟨t, up, kid, 0, 0, 0⟩, .slice A t.kids.length c)], 0, μ) ⟨aI _, MLe.refl _, ar.app fun e he => by rw [aR.1 he]; exact hk, by simp [xI, gP]⟩ (fun a w hs => (hs.aKt (n' := (es ++ [((⟨t, up, kid, 0, 0, 0⟩ : Fl), Value.slice A t.kids.length c)]).length) (xs' := (es ++ [((⟨t, up, kid, 0, 0, 0⟩ : Fl), Value.slice A t.kids.length c)]).flatMap oH) (i := 2) rfl (by simp) (by rw [cG]; rfl)).sel PU PS) ?_
   rintro ⟨v1, es1, i, μ1⟩ ⟨aj, f, l, d⟩
   dsimp only at aj f l d ⊢
   unfold wU
   dsimp only [aL, aP]
   have ag : es1.length = es.length + 1 + szs (t.kids.take i) := by
    have h := congrArg List.length d
    rw [aH, aK, aH, bF, aB2 _ _ _ _ _ (fun k hk => jM hn (aZ hk))] at h
    omega
   have az := DG t.kids i
   refine fW 0 rfl ?_
   rintro A1 c1 rfl aa
   obtain ⟨g, rfl⟩ : ∃ g, A1 = some ⟨g, 0, none⟩ := by
    rcases aa.form with ⟨_, h, _⟩ | h
    ·omega
    ·exact h
   by_cases hlt : i < t.kids.length
   ·have q : t.kids[i]? = some t.kids[i] := aA hlt
    have aq := T.fN q
    obtain ⟨ad, x, rfl, ab, a7, ah⟩ := ai i _ q
    have hm := ab.mono f
    have ao := HC q
    have ap := DG t.kids (i + 1)
    have z : t.kids.take (i + 1) = t.kids.take i ++ [t.kids[i]] := by rw [gY hlt]
    generalize t.kids[i] = k at q aq ab hm ah ao z
    have r := fun (w2 : World) (an : MOk μ1 w2) (ay : Go.Vcg.Own μ1 (wU (.slice (some ⟨g, 0, none⟩) es1.length c1, es1)) w2) => ih (by omega) k x es.length i (.slice (some ⟨g, 0, none⟩) es1.length c1) es1 w2 μ1 an ay (by omega) (ah.mono f) l (by omega)
    try repeat' (first | refine KO ?_ | ((with_reducible apply mG 1); (iterate 3 exact rfl); exact EN; exact rfl; (exact r); (rintro v2 μ2 ⟨v2', es2⟩ ae ⟨rfl, o, p⟩); (unfold wU); (dsimp only [aL, aP])) | (refine KV (b := by first | exact U1 i | exact U4 hm) (c := ?_)) | refine KZ ?_)
    exact cP (v2, es2, i + 1, μ2) ⟨by dsimp only; omega, f.trans ae, p, by
     dsimp only at o ⊢
     rw [o, d, z, IS, ag, cE, iG aj, bB]
     simp⟩ (by dsimp only; omega) rfl PU PS
   ·have hi : i = t.kids.length := by omega
    subst hi
    rw [kY] at d ag
    have ax : ∃ e, es1[es.length]? = some e := by
     have : es.length < es1.length := by omega
     exact ⟨_, aA this⟩
    obtain ⟨e, he⟩ := ax
    have ak : e.1 = ⟨t, up, kid, 0, 0, 0⟩ := by
     have h := congrArg (fun x => x[es.length]?) d
     simp only [aN, he, dY] at h
     rw [aX (by rw [aH]; exact aD _), aH, dN] at h
     exact cX h
    obtain ⟨e1, ev1⟩ := e
    dsimp only at ak
    subst ak
    have av := nT zE (vs := [.int .i64 ((es1.length : Int) - 1)]) (k := 10) (n := 1) (by omega) (y := ((⟨t, up, kid, 0, 0, es1.length - 1⟩ : Fl), ev1)) es1 es.length _ he (by rw [show ((es1.length : Int) - 1) = ((es1.length - 1 : Nat) : Int) by omega]; rfl)
    have p := l.set (i := es.length) (e' := ((⟨t, up, kid, 0, 0, es1.length - 1⟩ : Fl), ev1)) (show KR μ1 t.kids ev1 from l _ (aB he))
    have au : (es1.set es.length ((⟨t, up, kid, 0, 0, es1.length - 1⟩ : Fl), ev1)).map (·.1) = es.map (·.1) ++ OU (n + 1) t up kid es.length := by
     rw [iU, d, aB3, List.set_append_right _ _ (by rw [aH]; exact aD _), aH, dN, iL, show es1.length - 1 = es.length + t.size - 1 by omega]
    have aw := MY es1
    try repeat' (first | refine KO ?_ | ((with_reducible apply kW 0); (iterate 7 exact rfl); (rw [aw]; omega)) | (refine KV (b := by exact U1 es.length) (c := ?_)) | refine KZ ?_)
    refine gC (n' := (es1.set es.length ((⟨t, up, kid, 0, 0, es1.length - 1⟩ : Fl), ev1)).length) 0 rfl (by rw [fH]) av ?_
    exact GL (Ls := wU) 1 (.slice (some ⟨g, 0, none⟩) es1.length c1, es1.set es.length ((⟨t, up, kid, 0, 0, es1.length - 1⟩ : Fl), ev1)) al rfl (cN rfl) rfl rfl (fun μ' af => ⟨rfl, au, p.mono af⟩)
end
section
open Go.RowKit Go.Vcg
def Lk (E : List Fl) (x : Nat) : Prop := ∃ e, E[x]? = some e ∧ e.num = (if e.t.op = 4 then lW (E.take x) + 1 else 0) ∧ (0 ≤ e.up → e.up < x ∧ e.fn = if (dH E e.up.toNat).t.op = 4 then (dH E e.up.toNat).num else (dH E e.up.toNat).fn) ∧ (e.up < 0 → e.fn = 0)
theorem AtG.take {E : List Fl} {n : Nat} {t : T} {up : Int} {kid fn i c : Nat} (h : AtG E n t up kid fn i c) : lW (E.take i) = c := by
 obtain ⟨pre, post, rfl, rfl, rfl⟩ := h
 rw [bO, List.take_left]
theorem ZU {E : List Fl} {n : Nat} (ih : ∀ (t : T) (up : Int) (kid fn i c : Nat), t.size ≤ n → AtG E n t up kid fn i c → (0 ≤ up → up < i ∧ fn = if (dH E up.toNat).t.op = 4 then (dH E up.toNat).num else (dH E up.toNat).fn) → (up < 0 → fn = 0) → ∀ x, i ≤ x → x < i + t.size → Lk E x) (pa fn : Nat) (b : fn = if (dH E pa).t.op = 4 then (dH E pa).num else (dH E pa).fn) : ∀ (ks : List T) (j i c : Nat), (∀ k ∈ ks, k.size ≤ n) → EH E n ks (pa : Int) j fn i c → pa < i → ∀ x, i ≤ x → x < i + szs ks → Lk E x
 | [], j, i, c, _, _, _, x, h1, h2 => by
   exfalso
   rw [show szs [] = 0 from rfl] at h2
   omega
 | k :: r, j, i, c, hk, d, f, x, h1, h2 => by
   have a := hk k (aF ..)
   rw [cO] at h2
   by_cases e : x < i + k.size
   ·exact ih k pa j fn i c a d.hd (fun _ => ⟨by omega, by rw [cL]; exact b⟩) (fun h => by omega) x h1 e
   ·exact ZU ih pa fn b r (j + 1) (i + k.size) _ (fun k h => hk k (cK h)) (d.tl a) (by omega) x (by omega) (by omega)
theorem aE2 {E : List Fl} : ∀ (n : Nat) (t : T) (up : Int) (kid fn i c : Nat), t.size ≤ n → AtG E n t up kid fn i c → (0 ≤ up → up < i ∧ fn = if (dH E up.toNat).t.op = 4 then (dH E up.toNat).num else (dH E up.toNat).fn) → (up < 0 → fn = 0) → ∀ x, i ≤ x → x < i + t.size → Lk E x
 | 0, t, _, _, _, _, _, h, _, _, _, _, _, _ => by have := bA t; omega
 | n + 1, t, up, kid, fn, i, c, hs, a, h1, h2, x, hx1, b => by
   have he := a.eat
   have e := bA t
   by_cases d : x = i
   ·subst d
    refine ⟨_, a.head, ?_, h1, h2⟩
    dsimp only
    rw [a.take]
   ·refine ZU (aE2 n) i (uH t fn c) ?_ t.kids 0 (i + 1) _ (fun k hk => jM hs hk) a.kids (by omega) x (by omega) (by omega)
    rw [he]
    unfold uH
    dsimp only
    split <;> rfl
theorem zC (t : T) : (jV t).length = t.size := qP _ _ _ _ _ _ _ (aD _)
theorem aF6 (t : T) (x : Nat) (a : x < t.size) : Lk (jV t) x := aE2 t.size t (-1) 0 0 0 0 (aD _) ⟨[], [], by unfold jV; simp, rfl, rfl⟩ (fun h => absurd h (by omega)) (fun _ => rfl) x (aI _) (by omega)
structure FLs (μ : Mem) (E : List Fl) (v : Value) (es : List (Fl × Value)) : Prop where
 sl : ∃ A c, v = .slice A es.length c ∧ Sl oH 11 μ A es.length es
 keys : es.map (·.1) = E
 kf : KP μ es
theorem FLs.mono {μ μ' : Mem} {E : List Fl} {v : Value} {es : List (Fl × Value)} (h : FLs μ E v es) (hle : MLe μ μ') : FLs μ' E v es := by
 obtain ⟨⟨A, c, h1, h2⟩, h3, h4⟩ := h
 exact ⟨⟨A, c, h1, h2.mono hle⟩, h3, h4.mono hle⟩
def aHc (E : List Fl) (i : Nat) (es : List (Fl × Value)) : Prop := es.length = E.length ∧ ∀ (j : Nat) (p : Fl × Value), es[j]? = some p → ∀ e, E[j]? = some e → p.1 = if j < i then e else zf e
theorem aFj {E : List Fl} {i : Nat} {es : List (Fl × Value)} {e : Fl} {u : Value} (h : aHc E i es) (he : E[i]? = some e) : aHc E (i + 1) (es.set i (e, u)) := by
 refine ⟨by rw [fH]; exact h.1, fun j p a x b => ?_⟩
 rw [iZ] at a
 by_cases hij : i = j
 ·subst hij
  rw [if_pos rfl] at a
  split at a
  ·cases a
   rw [he] at b
   cases b
   rw [if_pos (by omega)]
  ·cases a
 ·rw [if_neg hij] at a
  rw [h.2 j p a x b]
  by_cases hl : j < i
  ·rw [if_pos hl, if_pos (by omega)]
  ·rw [if_neg hl, if_neg (by omega)]
theorem aGz {E : List Fl} {i : Nat} {e : Fl} (h : E[i]? = some e) : lW (E.take (i + 1)) = lW (E.take i) + if e.t.op = 4 then 1 else 0 := by
 rw [bQ, h, yF]
 unfold lW
 by_cases h4 : e.t.op = 4 <;> simp [h4]
theorem aNb (E : List Fl) (i : Nat) : lW (E.take i) ≤ i := by
 unfold lW
 exact dO List.countP_le_length (by rw [cE]; omega)
attribute [local irreducible] gJ jV lW G GC GQ GA eN GI GCI Calls IntKind.wrap Int.decLt Int.decLe
theorem aB0 (t : T) (u : Value) (w : World) (μ : Mem) (hμ : MOk μ w) (hs : t.size ≤ 100000) (hk : KR μ t.kids u) :
 Calls Tryz.prog 26 #[.agg (aY t u).toArray] w fun e w' => ∃ v μ', e = .returned v ∧ tB w w' μ μ' ∧ ∃ es, FLs μ' (jV t) v es := by
 have ho := hk.one
 have ab := zC t
 have ak := aF6 t
 have hE : OU t.size t (-1) 0 0 = (jV t).map zf := by unfold OU jV; rfl
 have bf := bA t
 generalize jV t = E at ab ak hE ⊢
 refine aE (args := [.agg (aY t u).toArray]) Tryz.func26 rfl Tryz.ntmps26 (by simp) hμ ?_
 try repeat' (first | ((with_reducible show GC _ _ (Code.seq (Code.region 1 _ _) _) _ _ _ _); (apply dF)) | refine KZ ?_ | refine NB fun b => ?_)
 refine gcs (nH 77 11 ?_)
 have af := fun (w2 : World) (aw : MOk μ w2) (bd : Go.Vcg.Own μ (wU (.slice none 0 0, [])) w2) => aE6 t.size (by omega) t u (-1) 0 (.slice none 0 0) [] w2 μ aw bd (aD _) hk (fun e he => by cases he) (by simp; omega)
 try repeat' (first | refine KZ ?_ | ((with_reducible apply mG 1); (iterate 3 exact rfl); exact EN; exact rfl; exact af; rintro v1 μ1 ⟨v1', es1⟩ bg ⟨rfl, z, ap⟩; unfold wU; dsimp only [aL, aP]))
 have aq : es1.map (·.1) = E.map zf := by rw [← hE]; exact z
 have ao : es1.length = t.size := by have := congrArg List.length aq; rw [aH, aH, ab] at this; exact this
 have a8 : aHc E 0 es1 := ⟨by rw [ao, ab], fun j p hj e he => by
  rw [if_neg (by omega)]
  have h := congrArg (fun x => x[j]?) aq
  simp only [aN, hj, he, dY] at h
  exact cX h⟩
 obtain ⟨bp, au⟩ : ∃ x, x = b := ⟨_, rfl⟩
 rw [← au]
 clear au
 refine gcs (fW 0 rfl ?_)
 rintro A1 c1 rfl aj
 obtain ⟨g, rfl⟩ : ∃ g, A1 = some ⟨g, 0, none⟩ := by
  rcases aj.form with ⟨_, h, _⟩ | h
  ·omega
  ·exact h
 refine bW (ι := Nat × List (Fl × Value)) (fun j => j.1 ≤ es1.length ∧ KP μ1 j.2 ∧ aHc E j.1 j.2) (fun j => es1.length - j.1) (fun _ => μ1) (fun j => [(3, .slice (some ⟨g, 0, none⟩) es1.length c1), (4, .int .i64 ((lW (E.take j.1) : Nat) : Int)), (5, .int .i64 j.1)])
  (fun j => [.inr ⟨.slice (some ⟨g, 0, none⟩) es1.length c1, 77, 11, es1.length, j.2.flatMap oH⟩]) (0, es1) ⟨aI _, ap, a8⟩ (fun a w hs => by
    have h0 : lW (E.take 0) = 0 := by unfold lW; rfl
    dsimp only
    rw [h0]
    exact J5 hs) ?_
 rintro ⟨i, es2⟩ ⟨a7, d, f⟩
 dsimp only at a7 d f ⊢
 have an : es2.length = es1.length := by rw [f.1, ao, ab]
 have bj := aNb E i
 by_cases hlt : i < es1.length
 ·obtain ⟨⟨e0, u0⟩, he⟩ : ∃ e, es2[i]? = some e := ⟨_, aA (by omega)⟩
  obtain ⟨e, ag, o, ax, ah⟩ := ak i (by omega)
  have h0 := f.2 i _ he e ag
  rw [if_neg (by omega)] at h0
  dsimp only at h0
  subst h0
  have aa := aGz ag
  have a1 := d _ (aB he)
  obtain ⟨et, eup, ekid, efn, enum, elast⟩ := e
  dsimp only [zf] at *
  try repeat' (first | ((with_reducible show GC _ _ (Code.seq (Code.seq (Code.region 6 _ _) _) _) _ _ _ _); (apply dF)) | refine KZ ?_)
  refine gcs (iB (ι := Unit) (fun _ => True) (fun _ => μ1) (fun _ => [(3, .slice (some ⟨g, 0, none⟩) es1.length c1), (4, .int .i64 ((lW (E.take (i + 1)) : Nat) : Int)), (5, .int .i64 i)])
   (fun _ => [.inr ⟨.slice (some ⟨g, 0, none⟩) es1.length c1, 77, 11, es1.length, (es2.set i ((⟨et, eup, ekid, 0, enum, elast⟩ : Fl), u0)).flatMap oH⟩]) ?_ ?_)
  ·by_cases h4 : et.op = 4
   ·rw [if_pos h4] at aa o
    subst o
    rw [aa]
    try repeat' (first | refine KO ?_ | ((with_reducible apply PD 0 9 (e' := ((⟨et, eup, ekid, 0, lW (E.take i) + 1, elast⟩ : Fl), u0)) he (by omega) rfl); (iterate 5 exact rfl); (dsimp only [fD])) | (refine KV (b := by first | exact U1 i | ((with_reducible apply BN 0); (iterate 3 exact rfl); exact (yM he (by omega) rfl))) (c := ?_)) | refine KZ ?_)
    all_goals exact J1 () trivial
   ·rw [if_neg h4] at aa o
    subst o
    rw [aa, show es2.set i ((⟨et, eup, ekid, 0, 0, elast⟩ : Fl), u0) = es2 from dW fun j => by
     rw [iZ]
     split
     ·rename_i hj
      subst hj
      rw [if_pos (by omega), he]
     ·rfl]
    try repeat' (first | refine KO ?_ | (refine KV (b := by first | exact U1 i | ((with_reducible apply BN 0); (iterate 3 exact rfl); exact (yM he (by omega) rfl))) (c := ?_)) | refine KZ ?_)
    all_goals exact J1 () trivial
  ·rintro ⟨⟩ -
   have r : (es2.set i ((⟨et, eup, ekid, 0, enum, elast⟩ : Fl), u0))[i]? = some ((⟨et, eup, ekid, 0, enum, elast⟩ : Fl), u0) := iN (by omega)
   have y : ∀ fn', fn' = efn → KP μ1 (es2.set i ((⟨et, eup, ekid, fn', enum, elast⟩ : Fl), u0)) ∧ aHc E (i + 1) (es2.set i ((⟨et, eup, ekid, fn', enum, elast⟩ : Fl), u0)) := fun fn' h => by
    subst h
    exact ⟨d.set a1, aFj f ag⟩
   have ai : ∀ a b : Fl × Value, (es2.set i a).set i b = es2.set i b := fun a b => List.set_set ..
   generalize q : es2.set i ((⟨et, eup, ekid, 0, enum, elast⟩ : Fl), u0) = es3 at r
   have ad : ∀ b : Fl × Value, es3.set i b = es2.set i b := fun b => by rw [← q, ai]
   by_cases h0 : 0 ≤ eup
   ·obtain ⟨bh, l⟩ := ax h0
    obtain ⟨k, rfl⟩ : ∃ k : Nat, eup = k := ⟨eup.toNat, by omega⟩
    rw [cL] at l
    have a6 : k < i := by omega
    obtain ⟨⟨ek, uk⟩, ae⟩ : ∃ e, es2[k]? = some e := ⟨_, aA (by omega)⟩
    obtain ⟨ek', av⟩ : ∃ e, E[k]? = some e := ⟨_, aA (by omega)⟩
    have h9 := f.2 k _ ae ek' av
    rw [if_pos a6] at h9
    dsimp only at h9
    subst h9
    have ba : dH E k = ek := by unfold dH; rw [av]; rfl
    rw [ba] at l
    have ar : es3[k]? = some (ek, uk) := by rw [← q, iZ, if_neg (by omega), ae]
    have az := (d _ (aB ae)).one
    have bi : es3.length = es1.length := by rw [← q, fH, an]
    obtain ⟨kt, kup, kkid, kfn, knum, klast⟩ := ek
    dsimp only at l az
    have bc : (es2.set i ((⟨et, (k : Int), ekid, kfn, enum, elast⟩ : Fl), u0))[i]? = some ((⟨et, (k : Int), ekid, kfn, enum, elast⟩ : Fl), u0) := iN (by omega)
    by_cases h4 : kt.op = 4
    ·rw [if_pos h4] at l
     try repeat' (first | refine KO ?_ | ((with_reducible apply PD 1 8 (e' := ((⟨et, (k : Int), ekid, kfn, enum, elast⟩ : Fl), u0)) r (by omega) rfl); (iterate 5 exact rfl); (rw [ad]); (dsimp only [fD])) | ((with_reducible apply PD 1 8 (e' := ((⟨et, (k : Int), ekid, knum, enum, elast⟩ : Fl), u0)) bc (by omega) rfl); (iterate 5 exact rfl); (rw [ai]); (dsimp only [fD])) | (refine KV (b := by first | exact U1 i | exact U1 k | ((with_reducible apply eQ 0); (iterate 3 exact rfl); exact (yM r (by omega) rfl)) | ((with_reducible apply LJ 0 ar); (iterate 4 exact rfl))) (c := ?_)) | refine KZ ?_ | refine NB fun b => ?_)
     all_goals exact J2 (i + 1, es2.set i ((⟨et, (k : Int), ekid, knum, enum, elast⟩ : Fl), u0)) ⟨by dsimp only; omega, y knum l.symm⟩ (by dsimp only; omega)
    ·rw [if_neg h4] at l
     try repeat' (first | refine KO ?_ | ((with_reducible apply PD 1 8 (e' := ((⟨et, (k : Int), ekid, kfn, enum, elast⟩ : Fl), u0)) r (by omega) rfl); (iterate 5 exact rfl); (rw [ad]); (dsimp only [fD])) | (refine KV (b := by first | exact U1 i | exact U1 k | ((with_reducible apply eQ 0); (iterate 3 exact rfl); exact (yM r (by omega) rfl)) | ((with_reducible apply LJ 0 ar); (iterate 4 exact rfl))) (c := ?_)) | refine KZ ?_ | refine NB fun b => ?_)
     all_goals exact J2 (i + 1, es2.set i ((⟨et, (k : Int), ekid, kfn, enum, elast⟩ : Fl), u0)) ⟨by dsimp only; omega, y kfn l.symm⟩ (by dsimp only; omega)
   ·have bb := ah (by omega)
    subst bb
    try repeat' (first | refine KO ?_ | (refine KV (b := by first | exact U1 i | ((with_reducible apply eQ 0); (iterate 3 exact rfl); exact (yM r (by omega) rfl))) (c := ?_)) | refine KZ ?_)
    all_goals rw [← q]
    all_goals exact J2 (i + 1, es2.set i ((⟨et, eup, ekid, 0, enum, elast⟩ : Fl), u0)) ⟨by dsimp only; omega, y 0 rfl⟩ (by dsimp only; omega)
 ·have hi : i = es1.length := by omega
  subst hi
  try repeat' (refine KZ ?_)
  refine qI rfl (cN rfl) (fun μ' al ay => ⟨es2, ?_⟩)
  have h9 := ay _ (aF ..)
  rw [← an] at h9 ⊢
  obtain ⟨A', c', h1, h2⟩ := sT (enc := oH) h9 rfl (fun _ _ => rfl) rfl
  refine ⟨⟨A', c', h1, h2⟩, ?_, d.mono al⟩
  apply dW
  intro j
  rw [aN]
  by_cases hj : j < es2.length
  ·obtain ⟨p, hp⟩ : ∃ e, es2[j]? = some e := ⟨_, aA hj⟩
   obtain ⟨e, he⟩ : ∃ e, E[j]? = some e := ⟨_, aA (by have := f.1; omega)⟩
   have := f.2 j p hp e he
   rw [if_pos (by omega)] at this
   rw [hp, he, dY, this]
  ·rw [dL (by omega), dL (by have := f.1; omega)]
   rfl
end
section
open Go.RowKit Go.Vcg
structure Vp (t : T) : Prop where
 one : t.op = 63 ∨ t.op = 64 → 1 ≤ t.kids.length
 two : t.op = 62 → 2 ≤ t.kids.length
theorem aNw {t : T} {d : Nat} {s : Bool} (h : Rt t d s) : Vp t := by
 have a := SU h
 refine ⟨fun ho => ?_, fun ho => a.kc.two (by omega)⟩
 by_cases c : t.op = 63
 ·have := a.kc.two (by omega)
  omega
 ·have b : t.op = 64 := by omega
  cases h with
  | mk hd hn hk hr =>
    unfold bC exB kG at hk
    simp [b] at hk
    exact zD hk
def YO (t : T) : Prop := ∀ (w : World) (μ : Mem) (kv : Value), MOk μ w → KR μ t.kids kv → t.size ≤ 1000000 → eK Vp t →
 Calls Tryz.prog 74 #[.agg (aY t kv).toArray] w (pV w 9 1 (bD t).length ((bD t).flatMap lV))
theorem SG (t : T) (ih : ∀ k, k ∈ t.kids → YO k) : YO t := by
 intro w μ kv hμ hk an hv
 refine aE Tryz.func74 rfl Tryz.ntmps74 (by simp) hμ ?_
 have ao := kH t
 have ak := bA t
 have hmul := gR t.kids
 obtain ⟨A, c, rfl, hcap, p⟩ := hk.form
 by_cases j : t.op = 34
 ·try repeat' (first | refine KZ ?_ | refine NB fun b => ?_)
  rw [tO j]
  refine DY 1 1 rfl (bH rfl bZ) (by omega) ?_
  exact nG 0 rfl rfl rfl
 by_cases ap : t.op = 5 ∨ t.op = 60 ∨ t.op = 61
 ·have aj : bD t = t.kids.flatMap bD := by
   rw [qK j]
   unfold gG
   rw [if_pos (by omega)]
  have hsub : ∀ i, ((t.kids.take i).flatMap bD).length ≤ t.size := fun i => by
   have h1 := sX (l := t.kids.take i) (fun k _ => kH k)
   have h2 := tI t.kids i
   have h3 : lU t.kids = szs t.kids := rfl
   omega
  try repeat' (first | refine KZ ?_ | refine NB fun b => ?_ | (refine KB ?_ ?_ <;> intro hp))
  all_goals
   obtain ⟨bn, af⟩ : ∃ y, y = b := ⟨_, rfl⟩
   rw [← af]
   clear af
   refine bW (ι := Nat × Value) (fun i => i.1 ≤ t.kids.length) (fun i => t.kids.length - i.1) (fun _ => μ) (fun i => [(4, .int .i64 (i.1 : Int)), (3, i.2), (1, .pointer (some ⟨bn, 0, none⟩))]) (fun i => [.inr ⟨i.2, 9, 1, ((t.kids.take i.1).flatMap bD).length, ((t.kids.take i.1).flatMap bD).flatMap lV⟩, .inl ⟨bn, 24, 6, idx 0 (aY t (.slice A t.kids.length c))⟩]) (0, .slice none 0 0) (by simp) (fun a w hs => (hs.vN 9 1).sel PU PS) ?_
   rintro ⟨i, v⟩ hi
   dsimp only at hi ⊢
   by_cases hlt : i < t.kids.length
   ·have d : t.kids[i]? = some t.kids[i] := aA hlt
    generalize t.kids[i] = k at d
    obtain ⟨ad, u, rfl, hm, hone, q⟩ := p i k d
    have o := aB d
    have ai := T.fN d
    have ah := hsub (i + 1)
    have aa : (t.kids.take (i + 1)).flatMap bD = (t.kids.take i).flatMap bD ++ bD k := by
     rw [bQ, d]; simp
    have al : ((t.kids.take i).flatMap bD).length + (bD k).length ≤ 1000000 := by rw [aa, aK] at ah; omega
    have h1 := aEo (bD k)
    have h2 := aE5 (bD k)
    try repeat' (first | refine KO ?_ | ((with_reducible apply C3); exact rfl; exact EN; (exact fun w μc hk h => ih k o w μc u hk (q.mono h.le) (by omega) (hv.kid o)); intro v2; (with_reducible apply eU 0); exact rfl; rintro A2 c2 rfl ab) | (((with_reducible apply oZ); (iterate 3 exact rfl); (repeat first | with_reducible exact fE | with_reducible apply fV); (iterate 6 exact rfl); (((with_reducible apply YW 0); exact ab; exact rfl; exact rfl)); (omega); (assumption); omega; omega; intro v)) | (refine KV (b := by first | exact U1 i | exact U4 hm) (c := ?_)) | refine KZ ?_)
    rw [← aK, ← cG, ← aa]
    exact J2 (i + 1, v) (by dsimp only; omega) (by dsimp only; omega)
   ·obtain rfl : i = t.kids.length := by omega
    rw [kY, ← aj]
    try repeat' (refine KZ ?_)
    exact nG 0 rfl rfl rfl
 have kid : ∀ {i : Nat} {k : T}, t.kids[i]? = some k → bD t = bD k → ∃ ad u, A = some ad ∧ eM μ (ad.add (i * 6)) (aY k u) ∧ ∀ (w : World) (μc : Mem), MOk μc w → MLe μ μc → Calls Tryz.prog 74 #[.agg (aY k u).toArray] w (pV w 9 1 (bD t).length ((bD t).flatMap lV)) := fun {i k} d he => by
  obtain ⟨ad, u, e, hm, hone, q⟩ := p i k d
  have o := aB d
  have ai := T.fN d
  refine ⟨ad, u, e, hm, fun w μc hw hle => ?_⟩
  rw [he]
  exact ih k o w μc u hw (q.mono hle) (by omega) (hv.kid o)
 by_cases ag : t.op = 63 ∨ t.op = 64
 ·have hl := hv.here.one ag
  obtain ⟨k, d⟩ : ∃ k, t.kids[0]? = some k := ⟨_, aA (by omega)⟩
  obtain ⟨ad, u, rfl, hm, f⟩ := kid d (by
   rw [qK j]
   unfold gG
   rw [if_neg (by omega), if_pos ag]
   cases g : t.kids with
   | nil => rw [g] at d; cases d
   | cons a r => rw [g] at d; cases d; simp)
  try repeat' (first | refine KO ?_ | ((with_reducible apply C3); exact rfl; exact EN; (exact fun w μc hk h => f w μc hk h.le); intro v2) | (refine KV (b := by first | exact U1 0 | exact U4 hm) (c := ?_)) | refine KZ ?_ | refine NB fun b => ?_ | (refine KB ?_ ?_ <;> intro hp))
  all_goals exact nG 0 rfl rfl rfl
 by_cases x : t.op = 62
 ·have hl := hv.here.two x
  obtain ⟨k, d⟩ : ∃ k, t.kids[1]? = some k := ⟨_, aA (by omega)⟩
  obtain ⟨ad, u, rfl, hm, f⟩ := kid d (by
   rw [qK j]
   unfold gG
   rw [if_neg (by omega), if_neg (by omega), if_pos x]
   cases g : t.kids with
   | nil => rw [g] at d; cases d
   | cons a r =>
     cases hr : r with
     | nil => rw [g, hr] at d; cases d
     | cons y z => rw [g, hr] at d; cases d; simp)
  try repeat' (first | refine KO ?_ | ((with_reducible apply C3); exact rfl; exact EN; (exact fun w μc hk h => f w μc hk h.le); intro v2) | (refine KV (b := by first | exact U1 1 | exact U4 hm) (c := ?_)) | refine KZ ?_ | refine NB fun b => ?_)
  all_goals exact nG 0 rfl rfl rfl
 ·have ae : bD t = [] := by
   rw [qK j]
   unfold gG
   rw [if_neg (by omega), if_neg (by omega), if_neg x]
   rfl
  rw [ae]
  refine nH 9 1 ?_
  try repeat' (first | refine KZ ?_ | refine NB fun b => ?_)
  all_goals exact nG 1 rfl rfl rfl
theorem tN (t : T) : YO t := T.ind SG t
open Go.MapKept
theorem HY {x : ByteArray} : ∀ {l : List Bd} {k j : Nat}, fF x l k = some j → ∃ y, l[j - k]? = some y ∧ y.name = x ∧ k ≤ j ∧ ∀ i z, i < j - k → l[i]? = some z → z.name ≠ x
 | [], _, _, h => by cases h
 | b :: r, k, j, h => by
   unfold fF at h
   by_cases hb : b.name = x
   ·rw [if_pos hb] at h
    cases h
    rw [dN]
    exact ⟨b, rfl, hb, aD _, fun i z hi => absurd hi (by omega)⟩
   ·rw [if_neg hb] at h
    obtain ⟨y, h1, h2, h3, h4⟩ := HY h
    refine ⟨y, by rw [show j - k = (j - (k + 1)) + 1 by omega, bG]; exact h1, h2, by omega, fun i z hi a => ?_⟩
    cases i with
    | zero => cases a; exact hb
    | succ i => exact h4 i z (by omega) a
theorem HZ {x : ByteArray} : ∀ {l : List Bd} {k : Nat}, fF x l k = none → ∀ (i : Nat) (z : Bd), l[i]? = some z → z.name ≠ x
 | [], _, _, i, z, a => by simp at a
 | b :: r, k, h, i, z, a => by
   unfold fF at h
   by_cases hb : b.name = x
   ·rw [if_pos hb] at h
    cases h
   ·rw [if_neg hb] at h
    cases i with
    | zero => cases a; exact hb
    | succ i => exact HZ h i z a
structure Vw (t : T) : Prop where
 ks : Ks t
 vp : Vp t
 fl : t.op = 4 → 0 ≤ t.n ∧ t.n ≤ 255
theorem aNv {t : T} {d : Nat} {s : Bool} (h : Rt t d s) : Vw t := by
 refine ⟨SU h, aNw h, fun h4 => ?_⟩
 cases h with
 | mk hd hn hk hr =>
   obtain ⟨-, hf, -⟩ := hn
   unfold lZ at hf
   have hb : zO t = false := by
    cases hb : zO t with
    | false => rfl
    | true => rw [hb, if_pos rfl] at hf; cases hf
   rw [hb, if_neg (by simp), if_pos h4] at hf
   unfold wK at hf
   by_cases h1 : t.n < 0 ∨ 255 < t.n ∨ t.s ≠ ⟨#[]⟩ ∧ jU t.s = false
   ·rw [if_pos h1] at hf
    cases hf
   ·omega
theorem aKe (t : T) : ∀ (d : Nat) (s : Bool), Rt t d s → eK Vw t := T.XA (p := fun t => ∀ (d : Nat) (s : Bool), Rt t d s → eK Vw t) (fun t ih d s h => by
 refine .mk (aNv h) fun k hk => ?_
 obtain ⟨i, hi⟩ := List.mem_iff_getElem?.1 hk
 cases h with
 | mk _ _ _ hr => exact ih k hk _ _ (hr i k hi)) t
theorem eK.imp' {p q : T → Prop} (a : ∀ t, p t → q t) {t : T} (h : eK p t) : eK q t := by
 induction h with
 | mk h _ ih => exact .mk (a _ h) ih
theorem aNm : ((List.range 256).all fun k => (decide (anI (k : Int) 1 ≠ 0) == decide ((k : Int).tmod 2 = 1)) && (decide (anI (k : Int) 128 ≠ 0) == !decide ((IntKind.i64.wrap ((k : Int).tdiv 128)).tmod 2 = 0))) = true := by decide +kernel
theorem PW {n : Int} (h : 0 ≤ n ∧ n ≤ 255) : (anI n 1 ≠ 0 ↔ n.tmod 2 = 1) ∧ (anI n 128 ≠ 0 ↔ ¬(IntKind.i64.wrap (n.tdiv 128)).tmod 2 = 0) := by
 obtain ⟨k, rfl⟩ := kE h.1
 have h2 := eD.1 aNm k (List.mem_range.2 (by omega))
 rw [aS] at h2
 have h3 := eq_of_beq h2.1
 have h4 := eq_of_beq h2.2
 refine ⟨by rw [← decide_eq_true_iff (p := anI (k : Int) 1 ≠ 0), ← decide_eq_true_iff (p := (k : Int).tmod 2 = 1)]; exact (by rw [show decide (anI (↑k) 1 ≠ 0) = decide ((k : Int).tmod 2 = 1) from h3]), ?_⟩
 rw [← decide_eq_true_iff (p := anI (k : Int) 128 ≠ 0), show decide (anI (↑k) 128 ≠ 0) = _ from h4]
 simp
attribute [local irreducible] jN dU fF anI fZ G GC GQ GA eN Calls IntKind.wrap Int.decLt Int.decLe
theorem uO (l : List Bd) (lv sv : Value) (xs : List ByteArray) (k : Int) (μ : Mem) (hS : SsV μ sv xs) (hl : l.length + xs.length ≤ 10000000) :
 RC 113 [lv, sv, .int .i64 k] lv l (dU k xs l) μ := by
 intro w hμ hO
 have t := dJ hO.diff
 have ae : ∀ x : Bd, (jF x).length = 4 := fun _ => rfl
 obtain ⟨A, c, rfl, hS, hc⟩ := hS
 refine cC (args := [lv, .slice A xs.length c, .int .i64 k]) Tryz.func113 rfl Tryz.ntmps113 (by simp) hμ hO ?_
 refine fW 0 rfl ?_
 rintro Al cl rfl ag
 try repeat' (refine KZ ?_)
 refine bW (ι := Nat × Value) (fun q => q.1 ≤ xs.length) (fun q => xs.length - q.1) (fun _ => μ) (fun q => [(7, .int .i64 (q.1 : Int)), (0, q.2), (1, .slice A xs.length c), (2, .int .i64 k)]) (fun q => [lH q.2 (dU k (xs.take q.1) l)]) (0, .slice Al l.length cl) (aI _) (fun a w hs => by
  dsimp only
  rw [iY, zG]
  exact hs.sel PU (eW _)) ?_
 rintro ⟨j, v⟩ hj
 dsimp only at hj ⊢
 by_cases hlt : j < xs.length
 ·obtain ⟨ad, y, rfl, hy, hm⟩ := hS.get hlt
  have i := wC (k := k) (l := l) hy
  have u := nA k (xs.take j) l
  rw [cE] at u
  generalize dU k (xs.take j) l = acc at i u ⊢
  have ab := JE acc
  refine fW 0 rfl ?_
  rintro A1 c1 rfl r
  have e := fun (w : World) (μc : Mem) (hw : MOk μc w) (h : Bk.sh (lH (.slice A1 acc.length c1) acc) μc) => HX w μc hw y acc (.slice A1 acc.length c1) (GV (f := (.slice A1 acc.length c1, acc)) h (by dsimp only; omega))
  cases hp : fF y acc 0 with
  | none =>
    rw [hp] at e
    dsimp only at e
    have hne := EG (k := k) (HZ hp)
    try repeat' (first | refine KO ?_ | refine K3 53 (fun w μc hw g => e w μc hw (g.own _ (aF ..))) ?_ | (((with_reducible apply oZ); (iterate 3 exact rfl); (repeat first | with_reducible exact fE | with_reducible apply fV); (iterate 6 exact rfl); (((with_reducible apply jS); exact rfl; (repeat with_reducible exact fO); exact rfl)); (exact rfl); ((exact gB (by (repeat first | with_reducible exact fS | ((with_reducible apply eY); (exact rfl)))))); omega; omega; intro v)) | (refine KV (b := by first | exact U1 j | exact U3 (hm.at 0 rfl)) (c := ?_)) | refine KZ ?_ | refine NB fun b => ?_)
    all_goals refine gL (L' := [_]) (dR (.refl _) (.nil _)) ?_
    all_goals refine gC (n' := (dU k (xs.take (j + 1)) l).length) (xs' := (dU k (xs.take (j + 1)) l).flatMap jF) 0 rfl (by rw [i, hne]; simp) (by rw [i, hne]; simp) ?_
    all_goals exact cP (j + 1, _) (by dsimp only; omega) (by dsimp only; omega) rfl PU (eW _)
  | some p =>
    rw [hp] at e
    dsimp only at e
    obtain ⟨z, hz, aa, -, o⟩ := HY hp
    rw [dI] at hz o
    have d := NR (k := k) hz o
    rw [if_pos aa, ← i] at d
    have af := (List.getElem?_eq_some_iff.1 hz).1
    rcases r.form with ⟨-, h0, -⟩ | ⟨g4, rfl⟩
    ·exfalso; omega
    by_cases hk : k = 3
    ·rw [if_pos hk] at d
     try repeat' (first | refine KO ?_ | refine K3 53 (fun w μc hw g => e w μc hw (g.own _ (aF ..))) ?_ | ((with_reducible apply kW 0); (iterate 7 exact rfl); (rw [ab]; omega); (dsimp only [fD])) | (refine KV (b := by first | exact U1 j | exact U1 p | exact U3 (hm.at 0 rfl)) (c := ?_)) | refine KZ ?_)
     all_goals refine gC (n' := (dU k (xs.take (j + 1)) l).length) (xs' := (dU k (xs.take (j + 1)) l).flatMap jF) 0 rfl (by rw [d, fH]) (by rw [d, hk]; exact nT ae (vs := [.int .i64 3]) (k := 1) (n := 1) (by omega) acc p _ hz rfl) ?_
     all_goals exact cP (j + 1, _) (by dsimp only; omega) (by dsimp only; omega) rfl PU (eW _)
    ·rw [if_neg hk] at d
     try repeat' (first | refine KO ?_ | refine K3 53 (fun w μc hw g => e w μc hw (g.own _ (aF ..))) ?_ | (refine KV (b := by first | exact U1 j | exact U3 (hm.at 0 rfl)) (c := ?_)) | refine KZ ?_)
     all_goals rw [← d]
     all_goals exact cP (j + 1, _) (by dsimp only; omega) (by dsimp only; omega) rfl PU (eW _)
 ·obtain rfl : j = xs.length := by omega
  rw [aG (aD _)]
  try repeat' (refine KZ ?_)
  all_goals exact nC t rfl (cN rfl) rfl rfl
end
section
open Go.RowKit Go.Vcg Go.MapKept
theorem aDe (k : Int) (x : ByteArray) (l : List Bd) : dU k [x] l = jN x k l := rfl
theorem aA4 (t : T) (fs : Bool) (l : List Bd) : bN [t] fs l = if t.op = 2 ∧ t.n ≠ 0 then eP t l else if (jG t 1 && fs) = true then jN t.s 3 l else l := rfl
attribute [local irreducible] jN dU bN dV eG anI jE fZ G GC GQ GA eN Calls IntKind.wrap Int.decLt Int.decLe
theorem DN (t : T) (u lv : Value) (l : List Bd) (fs : Bool) (μ : Mem) (hk : KR μ t.kids u) (hw : eK Vw t) (a1 : t.size ≤ 2000) (hl : l.length + t.size ≤ 10000000) :
 RC 112 [lv, .agg (aY t u).toArray, .bool fs] lv l (bN [t] fs l) μ := by
 intro w hμ hO
 have f := dJ hO.diff
 have ou := hk.one
 have a6 := bA t
 have ar := gR t.kids
 obtain ⟨A, c, rfl, hcap, ag⟩ := hk.form
 generalize e : bN [t] fs l = l'
 rw [aA4] at e
 refine cC (args := [lv, .agg (aY t (.slice A t.kids.length c)).toArray, .bool fs]) Tryz.func112 rfl Tryz.ntmps112 (by simp) hμ hO ?_
 refine fW 0 rfl ?_
 rintro Al cl rfl ba
 by_cases h2 : t.op = 2 ∧ t.n ≠ 0
 ·rw [if_pos h2] at e
  obtain ⟨h2, an⟩ := h2
  have hn := hw.here.ks.vn h2
  have hd := hw.here.ks.kc.sub h2
  unfold eP at e
  try repeat' (first | refine KZ ?_ | refine NB fun b => ?_)
  obtain ⟨bn, ah⟩ : ∃ y, y = b := ⟨_, rfl⟩
  rw [← ah]
  clear ah
  refine bW (ι := Nat × Value × Mem) (fun q => q.1 ≤ t.kids.length ∧ MLe μ q.2.2) (fun q => t.kids.length - q.1) (fun q => q.2.2) (fun q => [(7, .int .i64 (q.1 : Int)), (4, .pointer (some ⟨bn, 0, none⟩)), (2, .bool fs), (0, q.2.1)]) (fun q => [lH q.2.1 ((t.kids.take q.1).foldl (fun l d => dU t.n (bD (dM d 0)) l) l), .inl ⟨bn, 24, 6, idx 0 (aY t (.slice A t.kids.length c))⟩]) (0, .slice Al l.length cl, μ) ⟨aI _, MLe.refl _⟩ (fun a w hs => J5 hs) ?_
  rintro ⟨i, v, μi⟩ ⟨hi, hle⟩
  dsimp only at hi hle ⊢
  by_cases hlt : i < t.kids.length
  ·obtain ⟨d, o⟩ : ∃ d, t.kids[i]? = some d := ⟨_, aA hlt⟩
   obtain ⟨ad, x, rfl, aq, a8, au⟩ := ag i d o
   have ao := aq.mono hle
   have k := aB o
   have bd := hd d k
   have bc : d.size ≤ szs t.kids := T.eF (List.mem_map.2 ⟨d, k, rfl⟩)
   have a7 := jO o
   have ai : ((t.kids.take i).foldl (fun l d => dU t.n (bD (dM d 0)) l) l).length ≤ l.length + szs (t.kids.take i) := by
    have := mY ⟨t.op, t.at', t.n, t.m, t.s, t.kids.take i⟩ l
    unfold eP at this
    exact this
   have g := kN (fun l d => dU t.n (bD (dM d 0)) l) (l := l) o
   generalize (t.kids.take i).foldl (fun l d => dU t.n (bD (dM d 0)) l) l = acc at ai g ⊢
   obtain ⟨A0, c0, rfl, aw, ab⟩ := (au.mono hle).form
   obtain ⟨d0, p⟩ : ∃ d0, d.kids[0]? = some d0 := ⟨_, aA (by omega)⟩
   obtain ⟨ad0, x0, rfl, ap, ax, af⟩ := ab 0 d0 p
   have av := iV p
   rw [av] at g
   have az := T.fN p
   have bb := kH d0
   have aj : eK Vp d0 := ((hw.kid k).kid (aB p)).imp' fun t h => h.vp
   have al := fun w μc hw (hle : MLe μi μc) => tN d0 w μc x0 hw (af.mono hle) (by omega) aj
   try repeat' (refine KZ ?_)
   refine aT 14 _ (by kernel_rfl) rfl (dG (aC aQ)) ?_
   all_goals (refine DD 0 ?_; refine D1 1 ?_; refine DD 2 ?_; refine DD 3 ?_; refine D2 4 rfl (by exact U1 i) ?_; refine DD 5 ?_; refine D2 6 rfl (by exact U4 ao) ?_; refine D2 7 rfl (by exact U1 0) ?_; refine D2 8 rfl (by exact U4 ap) ?_; refine D1 10 ?_; refine DD 11 ?_)
   all_goals (refine D3 9 ?_; refine D5 ?_; (((with_reducible apply F3 74); exact rfl; exact EN; exact fun w μc hw ak => al w μc hw ak.le; intro v2; (with_reducible apply eU 0); exact rfl; rintro A2 c2 rfl ay; refine pI rfl ?_; intro μ2 z j; have ae := SsV.mM (xs := bD d0) j rfl rfl)); refine D9 ?_)
   all_goals (refine D3 12 ?_; refine D5 ?_; (refine CF 113 ?_; (with_reducible apply pQ 0); (iterate 3 exact rfl); exact EN; exact rfl; exact uO acc _ _ (bD d0) t.n _ ae (by omega); intro v4 μ4 r; dsimp only [fD]); refine D9 ?_)
   all_goals (refine DD 13 ?_; refine D8 ?_)
   all_goals try repeat' (refine KZ ?_)
   all_goals rw [← g]
   all_goals exact J2 (i + 1, v4, μ4) ⟨by dsimp only; omega, (hle.trans z).trans r⟩ (by dsimp only; omega)
  ·obtain rfl : i = t.kids.length := by omega
   rw [aG (aD _)]
   try repeat' (refine KZ ?_)
   all_goals refine gL (L' := [_]) (eV (.refl _) (.nil _)) ?_
   all_goals exact nC f rfl (cN rfl) rfl e
 rw [if_neg h2] at e
 have an : t.op = 2 → t.n = 0 := fun h => by
  by_cases h0 : t.n = 0
  ·exact h0
  ·exact absurd ⟨h, h0⟩ h2
 by_cases h4 : (jG t 1 && fs) = true
 ·rw [if_pos h4, ← aDe] at e
  rw [aS] at h4
  obtain ⟨h4, rfl⟩ := h4
  unfold jG at h4
  rw [aS] at h4
  have aa := of_decide_eq_true h4.1
  have hb := (PW (hw.here.fl aa)).1.1 (of_decide_eq_true h4.2)
  try repeat' (first | refine KO ?_ | (refine CF 113 ?_; (with_reducible apply MQ (xs := [Value.string t.s]) 1 1); exact rfl; exact rfl; (decide); refine pI rfl ?_; intro μ2 z j; have ae := SsV.mM (xs := [t.s]) j rfl rfl; (with_reducible apply pQ 1); (iterate 3 exact rfl); exact EN; exact rfl; exact uO l _ _ [t.s] 3 _ ae (by simp; omega); intro v4 μ4 r; dsimp only [fD]) | refine KZ ?_ | refine NB fun b => ?_)
  all_goals refine gL (L' := [_]) (dR (.refl _) (.nil _)) ?_
  all_goals exact nC f rfl (cN rfl) rfl e
 ·rw [if_neg h4] at e
  have hb : fs = true → t.op = 4 → ¬ t.n.tmod 2 = 1 := fun hf ho h => h4 (by
   rw [hf, jL]
   unfold jG
   rw [decide_eq_true ho, decide_eq_true ((PW (hw.here.fl ho)).1.2 h)]
   rfl)
  by_cases aa : t.op = 4
  ·cases fs with
   | false =>
     try repeat' (first | refine KZ ?_ | refine NB fun b => ?_ | (refine KB ?_ ?_ <;> intro hp))
     all_goals refine gL (L' := [_]) (dR (.refl _) (.nil _)) ?_
     all_goals exact nC f rfl (cN rfl) rfl e
   | true =>
     have hb := hb rfl aa
     try repeat' (first | refine KZ ?_ | refine NB fun b => ?_)
     all_goals refine gL (L' := [_]) (dR (.refl _) (.nil _)) ?_
     all_goals exact nC f rfl (cN rfl) rfl e
  ·try repeat' (first | refine KZ ?_ | refine NB fun b => ?_ | (refine KB ?_ ?_ <;> intro hp))
   all_goals refine gL (L' := [_]) (dR (.refl _) (.nil _)) ?_
   all_goals exact nC f rfl (cN rfl) rfl e
theorem AF (kids : List T) (fs : Bool) (kv lv : Value) (l : List Bd) (μ : Mem) (hk : KR μ kids kv) (hw : ∀ k ∈ kids, eK Vw k) (ae : szs kids ≤ 2000) (hl : l.length + szs kids ≤ 10000000) :
 RC 110 [lv, kv, .bool fs] lv l (bN kids fs l) μ := by
 intro w hμ hO
 have r := dJ hO.diff
 have z := gR kids
 obtain ⟨A, c, rfl, hcap, p⟩ := hk.form
 generalize aa : bN kids fs l = l'
 have g : ∀ (i : Nat) (d : T), kids[i]? = some d → bN (kids.take (i + 1)) fs l = bN [d] fs (bN (kids.take i) fs l) := fun i d h => by
  unfold bN
  exact kN _ h
 refine cC (args := [lv, .slice A kids.length c, .bool fs]) Tryz.func110 rfl Tryz.ntmps110 (by simp) hμ hO ?_
 refine fW 0 rfl ?_
 rintro Al cl rfl ah
 try repeat' (refine KZ ?_)
 refine bW (ι := Nat × Value × Mem) (fun q => q.1 ≤ kids.length ∧ MLe μ q.2.2) (fun q => kids.length - q.1) (fun q => q.2.2) (fun q => [(7, .int .i64 (q.1 : Int)), (1, .slice A kids.length c), (2, .bool fs), (0, q.2.1)]) (fun q => [lH q.2.1 (bN (kids.take q.1) fs l)]) (0, .slice Al l.length cl, μ) ⟨aI _, MLe.refl _⟩ (fun a w hs => by
  dsimp only
  rw [iY, show bN [] fs l = l by unfold bN; rfl]
  exact hs.sel PU (eW _)) ?_
 rintro ⟨i, v, μi⟩ ⟨hi, hle⟩
 dsimp only at hi hle ⊢
 by_cases hlt : i < kids.length
 ·obtain ⟨d, f⟩ : ∃ d, kids[i]? = some d := ⟨_, aA hlt⟩
  obtain ⟨ad, x, rfl, y, ag, ab⟩ := p i d f
  have u := y.mono hle
  have j := aB f
  have af := jO f
  have t := iQ (kids.take i) fs l
  have e := g i d f
  generalize bN (kids.take i) fs l = acc at t e ⊢
  have hone := DN d x v acc fs μi (ab.mono hle) (hw d j) (by omega) (by omega)
  rw [← e] at hone
  try repeat' (first | refine KO ?_ | (refine CF 112 ?_; (with_reducible apply pQ 0); (iterate 3 exact rfl); exact EN; exact rfl; (exact hone); (intro v4 μ4 o); (dsimp only [fD])) | (refine KV (b := by first | exact U1 i | exact U4 u) (c := ?_)) | refine KZ ?_)
  all_goals exact cP (i + 1, v4, μ4) ⟨by dsimp only; omega, hle.trans o⟩ (by dsimp only; omega) rfl PU (eW _)
 ·obtain rfl : i = kids.length := by omega
  rw [aG (aD _)]
  try repeat' (refine KZ ?_)
  all_goals exact nC r rfl (cN rfl) rfl aa
end
section
open Go.RowKit Go.Vcg Go.MapKept
structure YP (E : List Fl) : Prop where
 len : E.length ≤ 2000
 last : ∀ (i : Nat) (e : Fl), E[i]? = some e → i ≤ e.last ∧ e.last < E.length
 vw : ∀ e ∈ E, eK Vw e.t
 sz : ∀ e ∈ E, e.t.size ≤ 2000
 up : ∀ (i : Nat) (e : Fl), E[i]? = some e → -1 ≤ e.up ∧ e.up < i
theorem FLs.len {μ : Mem} {E : List Fl} {v : Value} {es : List (Fl × Value)} (h : FLs μ E v es) : es.length = E.length := by rw [← h.keys, aH]
theorem FLs.get {μ : Mem} {E : List Fl} {A : Option Addr} {n c : Nat} {es : List (Fl × Value)} (h : FLs μ E (.slice A n c) es) {i : Nat} (hi : i < E.length) : ∃ ad e u, A = some ad ∧ E[i]? = some e ∧ dH E i = e ∧ eM μ (ad.add (i * 11)) [.int .i64 e.t.op, .int .i64 e.t.at', .int .i64 e.t.n, .int .i64 e.t.m, .string e.t.s, u, .int .i64 e.up, .int .i64 (e.kid : Int), .int .i64 (e.fn : Int), .int .i64 (e.num : Int), .int .i64 (e.last : Int)] ∧ eM μ (ad.add (i * 11)) (aY e.t u) ∧ KR μ e.t.kids u := by
 obtain ⟨⟨A, c, e, d⟩, hk, hf⟩ := h
 cases e
 have hl : es.length = E.length := by rw [← hk, aH]
 obtain ⟨ad, y, rfl, a, hm⟩ := d.get (show i < es.length by omega)
 have he : E[i]? = some y.1 := by rw [← hk, aN, a]; rfl
 refine ⟨ad, y.1, y.2, rfl, he, by unfold dH; rw [he]; rfl, hm, fun j v b => hm j v ?_, hf y (aB a)⟩
 unfold oH
 rw [aU (List.getElem?_eq_some_iff.1 b).1]
 exact b
theorem FLs.form {μ : Mem} {E : List Fl} {v : Value} {es : List (Fl × Value)} (h : FLs μ E v es) : ∃ A c, v = .slice A E.length c := by
 have hl := h.len
 obtain ⟨⟨A, c, e, -⟩, -, -⟩ := h
 exact ⟨A, c, by rw [e, hl]⟩
theorem nS {α : Type} (g : α → Nat → α) (i m : Nat) (l : α) : foldI g i (m + 1) l = g (foldI g i m l) (i + m) := by rw [lC]; rfl
theorem PT (E : List Fl) (m top : Nat) (sh : Bool) (l : List Bd) (i : Nat) : (gD E m top sh l i).length ≤ l.length + 2 * (dH E i).t.size := by
 have hv := mY (dH E i).t l
 have a := bA (dH E i).t
 have h1 : (if (dH E i).fn = m then wM (dH E i).t l else l).length ≤ l.length + (dH E i).t.size := by
  split
  ·unfold wM
   split
   ·omega
   ·omega
  ·omega
 have h2 := iQ [(dH E i).t] true (if (dH E i).fn = m then wM (dH E i).t l else l)
 have h3 : szs [(dH E i).t] = (dH E i).t.size := by simp [szs]
 unfold gD
 dsimp only
 split
 ·omega
 ·omega
theorem FK {E : List Fl} (b : YP E) (m top : Nat) (sh : Bool) (a : Nat) (l : List Bd) : ∀ k : Nat, (foldI (gD E m top sh) a k l).length ≤ l.length + 4000 * k
 | 0 => by rw [foldI]; omega
 | k + 1 => by
   have h1 := FK b m top sh a l k
   have h2 := PT E m top sh (foldI (gD E m top sh) a k l) (a + k)
   have h3 : (dH E (a + k)).t.size ≤ 2000 := by
    unfold dH
    cases he : E[a + k]? with
    | none => exact dO (Nat.le_of_eq T.LH) (by omega)
    | some e => exact b.sz e (aB he)
   rw [nS]
   omega
attribute [local irreducible] gD BO foldI oH dH
attribute [local irreducible] jN dU eP bN dV eG anI jE fZ G GC GQ GA eN Calls IntKind.wrap Int.decLt Int.decLe
theorem VY (E : List Fl) (fv : Value) (es : List (Fl × Value)) (a : Nat) (μ : Mem) (hF : FLs μ E fv es) (ab : YP E) (ha : a < E.length) (h4 : (dH E a).t.op = 4) :
 PRC 111 [fv, .int .i64 (a : Int)] (PY E a) μ := by
 intro w hμ hO
 have b5 := dJ hO.diff
 obtain ⟨A0, cA, rfl⟩ := hF.form
 obtain ⟨adA, e, u, rfl, bg, b3, a8, bu, bb⟩ := hF.get ha
 have cn := ab.last a e bg
 have au := ab.vw e (aB bg)
 have cf := ab.sz e (aB bg)
 have dp := ab.len
 rw [b3] at h4
 have bk := au.here.ks.kc.two (.inl h4)
 have b2 := au.here.fl h4
 have ao : jG e.t 128 = false ↔ (IntKind.i64.wrap (e.t.n.tdiv 128)).tmod 2 = 0 := by
  have h2 := (PW b2).2
  unfold jG
  rw [decide_eq_true h4, cH, decide_eq_false_iff_not]
  constructor
  ·intro h
   by_cases h0 : (IntKind.i64.wrap (e.t.n.tdiv 128)).tmod 2 = 0
   ·exact h0
   ·exact absurd (h2.2 h0) h
  ·intro h h3
   exact h2.1 h3 h
 generalize ae : PY E a = l'
 unfold PY at ae
 rw [b3] at ae
 obtain ⟨t, up, kid, fn, num, last⟩ := e
 dsimp only at cn au cf h4 bk b2 ao ae bb a8 bu
 have ou := bb.one
 obtain ⟨Ak, ck, rfl, c1, bd⟩ := bb.form
 obtain ⟨d0, ay⟩ : ∃ d0, t.kids[0]? = some d0 := ⟨_, aA (by omega)⟩
 obtain ⟨ad0, x0, rfl, cj, dd, bz⟩ := bd 0 d0 ay
 have cr := iV ay
 rw [cr] at ae
 have dj := T.fN ay
 have dn := kH d0
 have cc : eK Vp d0 := (au.kid (aB ay)).imp' fun t h => h.vp
 have cg := fun w μc hw (hle : MLe μ μc) => tN d0 w μc x0 hw (bz.mono hle) (by omega) cc
 refine cC (args := [.slice (some adA) E.length cA, .int .i64 (a : Int)]) Tryz.func111 rfl Tryz.ntmps111 (by simp) hμ hO ?_
 try repeat' (first | ((with_reducible show GC _ _ (Code.seq (Code.block _ _) _) _ _ _ _); (apply dF)) | refine KO ?_ | ((with_reducible apply F3 74); exact rfl; exact EN; (exact fun w μc hw a6 => cg w μc hw a6.le); intro v2; (with_reducible apply eU 0); exact rfl; (rintro A2 c2 rfl bq); (refine pI rfl ?_); (intro μ2 al bp); (have c8 := SsV.mM (xs := bD d0) bp rfl rfl)) | (refine CF 113 ?_; (refine rC 40 4 ?_); (with_reducible apply pQ (bl := ([] : List Bd)) 0); (iterate 3 exact rfl); exact EN; exact rfl; (exact uO [] _ _ (bD d0) 4 _ c8 (by simp; omega)); (intro v4 μ4 ak); (dsimp only [fD])) | (refine KV (b := by first | exact U1 a | exact U1 0 | exact U4 bu | exact U4 cj) (c := ?_)) | refine KZ ?_ | refine NB fun b => ?_)
 obtain ⟨bn, b7⟩ : ∃ y, y = b := ⟨_, rfl⟩
 rw [← b7]
 clear b7
 have c9 := hF.mono (al.trans ak)
 have b8 := nA 4 (bD d0) []
 rw [bJ, bB] at b8
 generalize dw : dU 4 (bD d0) [] = acc0 at ae b8 ⊢
 obtain ⟨T0, bi⟩ : ∃ T0, BO E a last (last - a) (a + 1) = T0 := ⟨_, rfl⟩
 rw [bi] at ae
 have az : ∀ f k, BO E a last (f + 1) k = if k ≤ last ∧ ¬((dH E k).up = a ∧ (dH E k).kid = 1) then BO E a last f (k + 1) else k := fun f k => by rw [BO]
 have ag : ∀ k, BO E a last 0 k = k := fun k => by rw [BO]
 refine gcs ?_
 refine iB (ι := Unit) (fun _ => True) (fun _ => μ4) (fun _ => [(0, .slice (some adA) E.length cA), (1, .int .i64 (a : Int)), (5, .pointer (some ⟨bn, 0, none⟩)), (6, v4), (7, .int .i64 (T0 : Int))]) (fun _ => [lH v4 acc0, .inl ⟨bn, 24, 6, idx 0 (aY t (.slice (some ad0) t.kids.length ck))⟩]) ?_ ?_
 ·try repeat' (refine KZ ?_)
  refine bW (ι := Nat) (fun k => a + 1 ≤ k ∧ k ≤ last + 1 ∧ BO E a last (last + 1 - k) k = T0) (fun k => last + 1 - k) (fun _ => μ4) (fun k => [(0, .slice (some adA) E.length cA), (1, .int .i64 (a : Int)), (5, .pointer (some ⟨bn, 0, none⟩)), (6, v4), (7, .int .i64 (k : Int))]) (fun _ => [lH v4 acc0, .inl ⟨bn, 24, 6, idx 0 (aY t (.slice (some ad0) t.kids.length ck))⟩]) (a + 1) ⟨aD _, by omega, by rw [show last + 1 - (a + 1) = last - a by omega]; exact bi⟩ (fun a w hs => J5 hs) ?_
  rintro k ⟨ds, dr, aa⟩
  have af := a8.mono (al.trans ak)
  by_cases cq : k ≤ last
  ·obtain ⟨ad9, ek, uk, e9, du, cw, av, df, -⟩ := c9.get (show k < E.length by omega)
   cases e9
   obtain ⟨f, hf⟩ : ∃ f, last + 1 - k = f + 1 := ⟨last - k, by omega⟩
   rw [hf, az, cw] at aa
   obtain ⟨kt, kup, kkid, kfn, knum, klast⟩ := ek
   dsimp only at av aa
   by_cases hs : kup = a ∧ kkid = 1
   ·rw [if_neg (fun h => h.2 hs)] at aa
    obtain ⟨rfl, rfl⟩ := hs
    subst aa
    try repeat' (first | refine KO ?_ | (refine KV (b := by first | exact U1 k | exact U1 a | exact U4 av | exact U4 af) (c := ?_)) | refine KZ ?_)
    all_goals exact J1 () trivial
   ·rw [if_pos ⟨cq, hs⟩] at aa
    have b1 : BO E a last (last + 1 - (k + 1)) (k + 1) = T0 := by rw [show last + 1 - (k + 1) = f by omega]; exact aa
    by_cases hu : kup = a
    ·have dq : ¬ (kkid : Int) = 1 := fun h => hs ⟨hu, by omega⟩
     try repeat' (first | refine KO ?_ | (refine KV (b := by first | exact U1 k | exact U1 a | exact U4 av | exact U4 af) (c := ?_)) | refine KZ ?_)
     all_goals exact J2 (k + 1) ⟨by omega, by omega, b1⟩ (by omega)
    ·try repeat' (first | refine KO ?_ | (refine KV (b := by first | exact U1 k | exact U1 a | exact U4 av | exact U4 af) (c := ?_)) | refine KZ ?_)
     all_goals exact J2 (k + 1) ⟨by omega, by omega, b1⟩ (by omega)
  ·rw [show last + 1 - k = 0 by omega, ag] at aa
   subst aa
   try repeat' (first | refine KO ?_ | (refine KV (b := by first | exact U1 a | exact U4 af) (c := ?_)) | refine KZ ?_)
   all_goals exact J1 () trivial
 rintro ⟨⟩ -
 clear bi az ag
 have b9 := fun k => FK ab num T0 (jG t 128) (a + 1) acc0 k
 have cd := fun k => nS (gD E num T0 (jG t 128)) (a + 1) k acc0
 have da : foldI (gD E num T0 (jG t 128)) (a + 1) 0 acc0 = acc0 := by rw [foldI]
 try repeat' (refine KZ ?_)
 refine bW (ι := Nat × Value × Mem) (fun q => a + 1 ≤ q.1 ∧ q.1 ≤ last + 1 ∧ MLe μ4 q.2.2) (fun q => last + 1 - q.1) (fun q => q.2.2) (fun q => [(0, .slice (some adA) E.length cA), (1, .int .i64 (a : Int)), (5, .pointer (some ⟨bn, 0, none⟩)), (6, q.2.1), (7, .int .i64 (T0 : Int)), (8, .int .i64 (q.1 : Int))]) (fun q => [lH q.2.1 (foldI (gD E num T0 (jG t 128)) (a + 1) (q.1 - (a + 1)) acc0), .inl ⟨bn, 24, 6, idx 0 (aY t (.slice (some ad0) t.kids.length ck))⟩]) (a + 1, v4, μ4) ⟨aD _, by dsimp only; omega, MLe.refl _⟩ (fun a9 w hs => by
  dsimp only
  rw [dN, da]
  exact J5 hs) ?_
 rintro ⟨i, vb, μ5⟩ ⟨cu, ct, z⟩
 dsimp only at cu ct z ⊢
 have an := (al.trans ak).trans z
 have r := a8.mono an
 have c6 := b9 (i - (a + 1))
 by_cases dt : i ≤ last
 ·obtain ⟨ad9, ei, ui, e9, b4, cx, aw, a1, ax⟩ := (hF.mono an).get (show i < E.length by omega)
  cases e9
  have ar := ab.vw ei (aB b4)
  have bm := ab.sz ei (aB b4)
  have p := cd (i - (a + 1))
  rw [show a + 1 + (i - (a + 1)) = i by omega, show i - (a + 1) + 1 = i + 1 - (a + 1) by omega] at p
  generalize foldI (gD E num T0 (jG t 128)) (a + 1) (i - (a + 1)) acc0 = acc at p c6 ⊢
  rw [show gD E num T0 (jG t 128) acc i = (let l1 := if (dH E i).fn = num then wM (dH E i).t acc else acc; if (dH E i).up = T0 ∧ jG t 128 = false then bN [(dH E i).t] true l1 else l1) by unfold gD; rfl, cx] at p
  have cb := mY ei.t acc
  obtain ⟨it, iup, ikid, ifn, inum, ilast⟩ := ei
  dsimp only at aw a1 ar bm p ax cb
  obtain ⟨acc1, g⟩ : ∃ x, (if ifn = num then wM it acc else acc) = x := ⟨_, rfl⟩
  rw [g] at p
  have db := bA it
  have cm : acc1.length ≤ acc.length + 2000 := by
   rw [← g]
   split
   ·unfold wM
    split
    ·omega
    ·omega
   ·omega
  have oui := ax.one
  try repeat' (first | ((with_reducible show GC _ _ (Code.seq (Code.seq (Code.region 10 _ _) _) _) _ _ _ _); (apply dF)) | refine KO ?_ | (refine KV (b := by first | exact U1 i | exact U1 a | exact U4 r | exact U4 a1) (c := ?_)) | refine KZ ?_ | refine NB fun b => ?_)
  obtain ⟨bx, b6⟩ : ∃ y, y = b := ⟨_, rfl⟩
  rw [← b6]
  clear b6
  refine gcs (iB (ι := Value × Mem) (fun q => MLe μ5 q.2) (fun q => q.2) (fun q => [(0, .slice (some adA) E.length cA), (1, .int .i64 (a : Int)), (5, .pointer (some ⟨bn, 0, none⟩)), (6, q.1), (7, .int .i64 (T0 : Int)), (8, .int .i64 (i : Int)), (9, .pointer (some ⟨bx, 0, none⟩))]) (fun q => [lH q.1 acc1, .inl ⟨bn, 24, 6, idx 0 (aY t (.slice (some ad0) t.kids.length ck))⟩, .inl ⟨bx, 24, 6, idx 0 (aY it ui)⟩]) ?_ ?_)
  ·by_cases hc : it.op = 2 ∧ it.n = 0 ∧ ifn = num
   ·obtain ⟨h2, h0, rfl⟩ := hc
    rw [if_pos rfl] at g
    unfold wM at g
    rw [if_pos ⟨h2, h0⟩] at g
    unfold eP at g
    rw [h0] at g
    have cz := ar.here.ks.kc.sub h2
    obtain ⟨Ai, ci, rfl, c4, bf⟩ := ax.form
    have cl := gR it.kids
    try repeat' (refine KZ ?_)
    refine aT 21 _ (by kernel_rfl) rfl (aC (aC (aC aQ))) ?_
    all_goals (refine D1 0 ?_; refine DD 1 ?_; refine D1 2 ?_; refine DD 3 ?_)
    all_goals (try (refine D7 4 ?_; (repeat' (refine KO ?_))))
    all_goals (refine D1 4 ?_; refine DD 5 ?_; refine D1 6 ?_; refine DD 7 ?_; refine DD 8 ?_)
    all_goals (try (refine D7 9 ?_; (repeat' (refine KO ?_))))
    all_goals (refine DD 9 ?_; refine DD 10 ?_; refine D2 11 rfl (by exact U1 i) ?_; refine DD 12 ?_; refine D2 13 rfl (by exact U4 aw) ?_; refine DD 14 ?_; refine DD 15 ?_; refine D2 16 rfl (by exact U1 a) ?_; refine DD 17 ?_; refine D2 18 rfl (by exact U4 r) ?_; refine D1 19 ?_; refine DD 20 ?_; refine D8 ?_)
    all_goals try repeat' (refine KZ ?_)
    refine bW (ι := Nat × Value × Mem) (fun q => q.1 ≤ it.kids.length ∧ MLe μ5 q.2.2) (fun q => it.kids.length - q.1) (fun q => q.2.2) (fun q => [(10, .int .i64 (q.1 : Int)), (0, .slice (some adA) E.length cA), (1, .int .i64 (a : Int)), (5, .pointer (some ⟨bn, 0, none⟩)), (6, q.2.1), (7, .int .i64 (T0 : Int)), (8, .int .i64 (i : Int)), (9, .pointer (some ⟨bx, 0, none⟩))]) (fun q => [lH q.2.1 ((it.kids.take q.1).foldl (fun l d => dU 0 (bD (dM d 0)) l) acc), .inl ⟨bn, 24, 6, idx 0 (aY t (.slice (some ad0) t.kids.length ck))⟩, .inl ⟨bx, 24, 6, idx 0 (aY it (.slice Ai it.kids.length ci))⟩]) (0, vb, μ5) ⟨aI _, MLe.refl _⟩ (fun a w hs => J5 hs) ?_
    rintro ⟨j, v7, μ7⟩ ⟨hj, v⟩
    dsimp only at hj v ⊢
    by_cases cs : j < it.kids.length
    ·obtain ⟨y, ap⟩ : ∃ d, it.kids[j]? = some d := ⟨_, aA cs⟩
     obtain ⟨ady, xy, rfl, bt, dm, cp⟩ := bf j y ap
     have ch := bt.mono v
     have ai := aB ap
     have dv := cz y ai
     have dk : y.size ≤ szs it.kids := T.eF (List.mem_map.2 ⟨y, ai, rfl⟩)
     have dl := jO ap
     have bh : ((it.kids.take j).foldl (fun l d => dU 0 (bD (dM d 0)) l) acc).length ≤ acc.length + szs (it.kids.take j) := by
      have := mY ⟨it.op, it.at', 0, it.m, it.s, it.kids.take j⟩ acc
      unfold eP at this
      exact this
     have ad := kN (fun l d => dU 0 (bD (dM d 0)) l) (l := acc) ap
     generalize (it.kids.take j).foldl (fun l d => dU 0 (bD (dM d 0)) l) acc = acc9 at bh ad ⊢
     obtain ⟨Ay, cy, rfl, c0, bc⟩ := (cp.mono v).form
     obtain ⟨y0, aq⟩ : ∃ d0, y.kids[0]? = some d0 := ⟨_, aA (by omega)⟩
     obtain ⟨ady0, xy0, rfl, bs, dc, bw⟩ := bc 0 y0 aq
     have ba := iV aq
     rw [ba] at ad
     have di := T.fN aq
     have de := kH y0
     have ca : eK Vp y0 := ((ar.kid ai).kid (aB aq)).imp' fun t h => h.vp
     have br := fun w μc hw (hle : MLe μ7 μc) => tN y0 w μc xy0 hw (bw.mono hle) (by omega) ca
     try repeat' (first | refine KO ?_ | ((with_reducible apply F3 74); exact rfl; exact EN; (exact fun w μc hw a6 => br w μc hw a6.le); intro v2; (with_reducible apply eU 0); exact rfl; (rintro A2 c2 rfl bq); (refine pI rfl ?_); (intro μ6 o bo); (have c7 := SsV.mM (xs := bD y0) bo rfl rfl)) | (refine CF 113 ?_; (with_reducible apply pQ 0); (iterate 3 exact rfl); exact EN; exact rfl; (exact uO acc9 _ _ (bD y0) 0 _ c7 (by omega)); (intro v8 μ8 aj); (dsimp only [fD])) | (refine KV (b := by first | exact U1 j | exact U1 0 | exact U4 ch | exact U4 bs) (c := ?_)) | refine KZ ?_)
     all_goals rw [← ad]
     all_goals exact J2 (j + 1, v8, μ8) ⟨by dsimp only; omega, (v.trans o).trans aj⟩ (by dsimp only; omega)
    ·obtain rfl : j = it.kids.length := by omega
     rw [aG (aD _), g]
     try repeat' (refine KZ ?_)
     all_goals exact J1 (v7, μ7) v
   ·have a7 : acc1 = acc := by
     rw [← g]
     split
     ·rename_i cv
      unfold wM
      rw [if_neg (fun h => hc ⟨h.1, h.2, cv⟩)]
     ·rfl
    rw [a7]
    try repeat' (refine KZ ?_)
    refine aT 21 _ (by kernel_rfl) rfl (aC (aC (aC aQ))) ?_
    all_goals (refine D1 0 ?_; refine DD 1 ?_; refine D1 2 ?_; refine DD 3 ?_)
    all_goals (try (refine D7 4 ?_; (repeat' (refine KB ?_ ?_ <;> intro hp))))
    all_goals (refine D1 4 ?_; (first | refine D1 5 ?_ | refine DD 5 ?_); refine D1 6 ?_; refine DD 7 ?_; refine DD 8 ?_)
    all_goals (try (refine D7 9 ?_; (repeat' (refine KB ?_ ?_ <;> intro hp))))
    all_goals (refine DD 9 ?_; refine DD 10 ?_; (first | refine D1 11 ?_ | (refine D2 11 rfl (by exact U1 i) ?_)); (first | refine D1 12 ?_ | refine DD 12 ?_); (first | refine D1 13 ?_ | (refine D2 13 rfl (by exact U4 aw) ?_)); refine DD 14 ?_; refine DD 15 ?_; (first | refine D1 16 ?_ | (refine D2 16 rfl (by exact U1 a) ?_)); (first | refine D1 17 ?_ | refine DD 17 ?_); (first | refine D1 18 ?_ | (refine D2 18 rfl (by exact U4 r) ?_)); refine D1 19 ?_; refine DD 20 ?_; refine D8 ?_)
    all_goals try repeat' (refine KZ ?_)
    all_goals exact J1 (vb, μ5) (MLe.refl _)
  ·rintro ⟨v6, μ6⟩ o
   dsimp only at o ⊢
   have ah := aw.mono o
   have dh := r.mono o
   have b0 := ax.mono o
   by_cases hc : iup = T0 ∧ jG t 128 = false
   ·rw [if_pos hc] at p
    obtain ⟨bj, hb⟩ := hc
    have hb := ao.1 hb
    have hone := DN it ui v6 acc1 true μ6 b0 ar bm (by omega)
    rw [← p] at hone
    try repeat' (first | refine KO ?_ | (refine CF 112 ?_; (with_reducible apply pQ 0); (iterate 3 exact rfl); exact EN; exact rfl; (exact hone); (intro v8 μ8 aj); (dsimp only [fD])) | (refine KV (b := by first | exact U1 i | exact U4 ah | ((with_reducible apply QG); exact rfl; exact rfl; decide)) (c := ?_)) | refine KZ ?_)
    all_goals exact J2 (i + 1, v8, μ8) ⟨by dsimp only; omega, by dsimp only; omega, (z.trans o).trans aj⟩ (by dsimp only; omega)
   ·rw [if_neg hc] at p
    have hb : iup = T0 → ¬ (IntKind.i64.wrap (t.n.tdiv 128)).tmod 2 = 0 := fun h h2 => hc ⟨h, ao.2 h2⟩
    rw [← p]
    by_cases bj : iup = T0
    ·have hb := hb bj
     try repeat' (first | refine KO ?_ | (refine KV (b := by first | exact U1 i | exact U4 ah | ((with_reducible apply QG); exact rfl; exact rfl; decide)) (c := ?_)) | refine KZ ?_)
     all_goals exact J2 (i + 1, v6, μ6) ⟨by dsimp only; omega, by dsimp only; omega, z.trans o⟩ (by dsimp only; omega)
    ·try repeat' (first | refine KO ?_ | (refine KV (b := by first | exact U1 i | exact U4 ah) (c := ?_)) | refine KZ ?_)
     all_goals exact J2 (i + 1, v6, μ6) ⟨by dsimp only; omega, by dsimp only; omega, z.trans o⟩ (by dsimp only; omega)
 ·obtain rfl : i = last + 1 := by omega
  rw [show last + 1 - (a + 1) = last - a by omega, ae]
  try repeat' (first | refine KO ?_ | (refine KV (b := by first | exact U1 a | exact U4 r) (c := ?_)) | refine KZ ?_)
  all_goals refine gL (L' := [_]) (eV (.refl _) (.nil _)) ?_
  all_goals exact nC b5 rfl (cN rfl) rfl rfl
end
end Go.Proofs.YtlllalmkkaolfaaGreatDoor
