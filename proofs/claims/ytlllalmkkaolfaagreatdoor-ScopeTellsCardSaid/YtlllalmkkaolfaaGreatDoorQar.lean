/- Package scope: hops, walked. -/
import Derived.Test.YtlllalmkkaolfaaGreatDoorQaq
import Derived.Lay
import Derived.LaidOnce
import Derived.SevenTiedAt
import Derived.Test.YtlllalmkkaolfaaGreatDoorTie
import Derived.Test.YtlllalmkkaolfaaGreatDoorCards
import Derived.Lib.LaidU8
import Derived.Lib.LaidTab
import Derived.Shelf.Vars
set_option maxRecDepth 20000
set_option maxHeartbeats 2000000
namespace Go.Proofs.YtlllalmkkaolfaaGreatDoor
section
open Go.RowKit Go.Vcg Go.MapKept
theorem TJ (l : List Sc) (b : Int) : ∀ (f : Nat) (a : Int), oG l f a b ≤ f
 | 0, _ => aD _
 | f + 1, a => by
   unfold oG
   split
   ·omega
   ·cases l[a.toNat]? with
    | none => dsimp only; omega
    | some c =>
      have := TJ l b f c.up
      dsimp only
      split <;> omega
theorem aFi {l : List Sc} {b : Nat} {a : Int} {c : Sc} (h0 : 0 ≤ a) (hc : l[a.toNat]? = some c) (hlt : c.up < a) (hne : a ≠ b) (h : wL l b c.up) : oG l (a.toNat + 1) a b = (if 0 < gN c.names then 1 else 0) + oG l (c.up.toNat + 1) c.up b := by
 have h1 := h.WK
 rw [oG, if_neg hne, hc]
 dsimp only
 rw [XB h a.toNat (c.up.toNat + 1) (by omega) (by omega)]
attribute [local irreducible] oG gN
attribute [local irreducible] jN dU eP bN dV eG anI jE fZ G GC GQ GA eN Calls IntKind.wrap Int.decLt Int.decLe
theorem VM (w : World) (μ : Mem) (hμ : MOk μ w) (xb : Nat) (A : Option Addr) (c : Nat) (ps : List (Sc × Value)) (v1 v2 v3 v4 v5 : Value) (hm : eM μ ⟨xb, 0, none⟩ [.slice A ps.length c, v1, v2, v3, v4, v5]) (r : ScR μ A ps) (a : Int) (bb : Nat) (u : wL (scs ps) bb a) (ab : a < 9000) :
 aV 22 #[.pointer (some ⟨xb, 0, none⟩), .int .i64 a, .int .i64 (bb : Int)] w (.int .i64 ((oG (scs ps) (a.toNat + 1) a bb : Nat) : Int)) := by
 have l : oA μ ⟨xb, 0 + 0, none⟩ (.slice A ps.length c) := by
  have h := hm 0 _ rfl
  rw [KI] at h
  exact h
 obtain ⟨hS, hl, o⟩ := r
 generalize hT : oG (scs ps) (a.toNat + 1) a bb = tot
 have x := TJ (scs ps) bb (a.toNat + 1) a
 rw [hT] at x
 refine aE (args := [.pointer (some ⟨xb, 0, none⟩), .int .i64 a, .int .i64 (bb : Int)]) Tryz.func22 rfl Tryz.ntmps22 (by simp) hμ ?_
 try repeat' (refine KZ ?_)
 refine bW (ι := Int × Nat) (fun j => wL (scs ps) bb j.1 ∧ j.2 + oG (scs ps) (j.1.toNat + 1) j.1 bb = tot) (fun j => j.1.toNat) (fun _ => μ) (fun j => [(0, .pointer (some ⟨xb, 0, none⟩)), (1, .int .i64 j.1), (2, .int .i64 (bb : Int)), (7, .int .i64 (j.2 : Int))]) (fun _ => []) (a, 0) ⟨u, by dsimp only; omega⟩ (fun a w hs => J5 hs) ?_
 rintro ⟨a', n⟩ ⟨e, d⟩
 dsimp only at e d ⊢
 by_cases p : a' = (bb : Int)
 ·subst p
  have h0 : oG (scs ps) ((bb : Int).toNat + 1) (bb : Int) (bb : Int) = 0 := by rw [oG, if_pos rfl]
  rw [h0, cB] at d
  subst d
  try repeat' (refine KZ ?_)
  all_goals exact aJ rfl rfl rfl
 ·cases e with
  | here => exact absurd rfl p
  | @up _ c9 h0 hc hlt hne h =>
    have q := aFi h0 hc hlt hne h
    rw [q] at d
    have h1 := h.WK
    obtain ⟨k, rfl⟩ : ∃ k : Nat, a' = k := ⟨a'.toNat, by omega⟩
    rw [cL] at hc
    have t : k < ps.length := by
     have := (List.getElem?_eq_some_iff.1 hc).1
     rw [lG] at this
     exact this
    obtain ⟨ad, y, rfl, z, f⟩ := hS.get t
    obtain ⟨cy, v⟩ := y
    obtain rfl : cy = c9 := by
     have h9 := jB z
     rw [hc] at h9
     cases h9
     rfl
    have g := o _ (aB z)
    dsimp only at g f
    have i := fun w μc hw (hle : MLe μ μc) => RR w μc hw cy v (g.mono hle)
    obtain ⟨A2, c2, rfl, ae, aa⟩ := g
    by_cases hh : 0 < gN cy.names
    ·rw [if_pos hh] at d
     try repeat' (first | refine KO ?_ | refine K2 33 i ?_ | (refine KV (b := by first | exact U1 k | ((with_reducible apply jR); exact rfl; exact rfl; exact l) | exact U4 f) (c := ?_)) | refine KZ ?_)
     all_goals exact J2 (cy.up, n + 1) ⟨h, by dsimp only; omega⟩ (by dsimp only; omega)
    ·rw [if_neg hh] at d
     try repeat' (first | refine KO ?_ | refine K2 33 i ?_ | (refine KV (b := by first | exact U1 k | ((with_reducible apply jR); exact rfl; exact rfl; exact l) | exact U4 f) (c := ?_)) | refine KZ ?_)
     all_goals exact J2 (cy.up, n) ⟨h, by dsimp only; omega⟩ (by dsimp only; omega)
end
section
open Go.RowKit Go.Vcg Go.MapKept
def UsV (μ : Mem) (l : List Us) (v : Value) : Prop := ∃ A c, v = .slice A l.length c ∧ Sl aC4 8 μ A l.length l
def zH (f : Nat) (t : T) (μ : Mem) (v : Value) : Prop := (4096 < fG (iA f t).scopes ∧ v = .tuple #[.slice none 0 0, .int .i64 9]) ∨ (¬ 4096 < fG (iA f t).scopes ∧ ∃ r, v = .tuple #[r, .int .i64 0] ∧ UsV μ ((iA f t).uses.map (zL (sF (iA f t)))) r)
theorem aM6 (f : Nat) (t : T) : (uI f t).scopes = sF (iA f t) ∧ (uI f t).uses = (iA f t).uses ∧ (uI f t).funcs = (iA f t).funcs := by unfold uI; exact ⟨rfl, rfl, rfl⟩
theorem VC (f : Nat) (t : T) (d : t.size ≤ 2000) (hf : t.size ≤ f) (g : eK qS t) : (iA f t).uses.length ≤ 9000 := by
 have e := bA t
 have a := iQ t.kids false []
 rw [bJ, bB] at a
 have b := tT (kind := 0) (at' := t.at') (w := ⟨-1, 0, false⟩) (l := bN t.kids false []) s00 (by omega)
 have c := rE (N := nbS f f) t.kids (fun k hk => IW f f k (g.kid hk) (by
  have : k.size ≤ szs t.kids := T.eF (List.mem_map.2 ⟨k, hk, rfl⟩)
  omega)) ⟨0, 0, false⟩ (nB t)
 have h1 := b.wt
 have h2 : wtS s00 = 0 := rfl
 have h3 : wtS (iA f t) ≤ wtS (nB t) + 3 * szs t.kids := c.wt
 have h4 : wtS (nB t) ≤ 1 := by rw [DH]; omega
 unfold wtS at h3 h4
 omega
attribute [local irreducible] uI iA rtB oG gN zL sF
attribute [local irreducible] jN dU eP bN dV eG anI jE fZ G GC GQ GA eN Calls IntKind.wrap Int.decLt Int.decLe
theorem VE (f : Nat) (t : T) (u : Value) (w : World) (μ : Mem) (hμ : MOk μ w) (hk : KR μ t.kids u) (p : t.size ≤ 2000) (hf : t.size ≤ f) (r : Sh t) (hT : qX μ) (aj : t.op = 1) (z : rtB t 1 false = true) :
 Calls Tryz.prog 8 #[.agg (aY t u).toArray] w fun e w' => ∃ v μ', e = .returned v ∧ tB w w' μ μ' ∧ zH f t μ' v := by
 have ou := hk.one
 obtain ⟨bh, bg⟩ := BA f t p hf (yG t 1 false (iJ z) r)
 obtain ⟨bd, ap, -⟩ := aM6 f t
 refine aE (args := [.agg (aY t u).toArray]) Tryz.func8 rfl Tryz.ntmps8 (by simp) hμ ?_
 try repeat' (first | ((with_reducible show GC _ _ (Code.seq (Code.region 4 _ _) _) _ _ _ _); (apply dF)) | refine KO ?_ | (refine CF 21 ?_; (with_reducible apply aFx f t); (iterate 3 exact rfl); exact EN; exact hk; exact p; exact hf; exact r; exact hT; exact aj; exact z; rintro μ1 ao ab; rotate_left; rintro μ1 xb cb hb db q ao ab hR; unfold FB1) | refine KZ ?_ | refine NB fun b => ?_)
 ·refine gcs (xR fun μ2 bq hL => ?_)
  have ai := aGc (L := _) hL
  obtain ⟨A, c, e, hS⟩ := VP hR ai bh bg
  have ax := ai _ (aF ..)
  have k := HH ax (vs := [q.sv, q.uv, .int .i64 ((uI f t).funcs : Int), .map (some cb), .map (some hb), .map (some db)]) (fun j v hj => rA hj)
  have ay := ai _ (cK (cK (aF ..)))
  obtain ⟨Au, cu, eu, hU⟩ := sT (enc := tV) (xs := (uI f t).uses) ay rfl (by simp) rfl
  rw [e, eu] at k
  rw [ap] at hU k
  refine nH 33 8 ?_
  have a6 : SI (iA f t) := VS f t
  have x := BV (iA f t)
  have br : (iA f t).uses.length ≤ 9000 := (VC f t p hf (yG t 1 false (iJ z) r))
  have g : scs q.cs = sF (iA f t) := by rw [hR.sc, bd]
  have a7 : oA μ2 ⟨xb, 0 + 1, none⟩ (.slice Au (iA f t).uses.length cu) := by
   have h := k 1 _ rfl
   rw [KI] at h
   exact h
  generalize (uI f t).funcs = fcs at k
  generalize ba : sF (iA f t) = lE at g x
  rw [ap] at eu
  try repeat' (first | refine KO ?_ | (refine KV (b := by ((with_reducible apply jR); exact rfl; exact rfl; exact a7)) (c := ?_)))
  refine bW (ι := Nat × Value) (fun j => j.1 ≤ (iA f t).uses.length) (fun j => (iA f t).uses.length - j.1) (fun _ => μ2) (fun j => [(23, .int .i64 (j.1 : Int)), (22, .int .i64 ((iA f t).uses.length : Int)), (21, .slice Au (iA f t).uses.length cu), (6, j.2), (4, .pointer (some ⟨xb, 0, none⟩))]) (fun j => [.inr ⟨j.2, 33, 8, (((iA f t).uses.take j.1).map (zL lE)).length, (((iA f t).uses.take j.1).map (zL lE)).flatMap aC4⟩]) (0, .slice none 0 0) (aI _) (fun a w hs => hs.sel PU (eW _)) ?_
  rintro ⟨i, v⟩ hi
  dsimp only at hi ⊢
  by_cases hlt : i < (iA f t).uses.length
  ·obtain ⟨adu, y, rfl, hy, ad⟩ := hU.get hlt
   have aa := a6.uses y (aB hy)
   have d : ((iA f t).uses.take (i + 1)).map (zL lE) = ((iA f t).uses.take i).map (zL lE) ++ [zL lE y] := by
    rw [bQ, hy, bI]
    rfl
   have an : (((iA f t).uses.take i).map (zL lE)).length = i := by
    rw [aH, cE]
    omega
   obtain ⟨u9, ts, tb, found, fn⟩ := y
   cases found with
   | false =>
     have ho : zL lE ⟨u9, ts, tb, false, fn⟩ = u9 := by
      unfold zL
      rw [if_neg (by simp)]
     rw [ho] at d
     generalize ((iA f t).uses.take i).map (zL lE) = acc at d an ⊢
     try repeat' (first | refine KO ?_ | (((with_reducible apply oZ); (iterate 3 exact rfl); (repeat first | with_reducible exact fE | with_reducible apply fV); (iterate 6 exact rfl); (((with_reducible apply jS); exact rfl; (repeat with_reducible exact fO); exact rfl)); (exact rfl); ((exact gB (by (repeat first | with_reducible exact fS | ((with_reducible apply eY); (exact rfl)))))); omega; omega; intro v)) | (refine KV (b := by first | exact U1 i | exact U4 ad) (c := ?_)) | refine KZ ?_ | refine NB fun b => ?_)
     all_goals refine gL (L' := [_]) (rV (.refl _) (.nil _)) ?_
     all_goals refine gC (n' := (acc ++ [u9]).length) (xs' := (acc ++ [u9]).flatMap aC4) 0 rfl (by simp) (by simp) ?_
     all_goals exact cP (i + 1, _) (by dsimp only; omega) (by dsimp only; omega) rfl PU (by dsimp only; rw [d]; exact eW _)
   | true =>
     obtain ⟨aq, -⟩ := aa.yes rfl
     dsimp only at aq
     have l := MW x u9.scope u9.name
     rw [aq] at l
     unfold mC at l
     have av := UN l
     obtain ⟨c9, d9, o, ah, -, -⟩ := qU l
     have bc := aa.hi
     have a8 := aa.lo
     dsimp only at bc a8
     have bf : YL lE ts tb = d9 := by
      unfold YL
      rw [o]
      simp [ah]
     rw [← g] at o av
     have az : ts < q.cs.length := by rw [← lG]; exact (List.getElem?_eq_some_iff.1 o).1
     have bn := hS
     obtain ⟨bi, bj, bk⟩ := hS
     obtain ⟨ads, cy, rfl, au, af⟩ := bi.get az
     obtain ⟨cc, v9⟩ := cy
     obtain rfl : cc = c9 := by
      have h9 := jB au
      rw [o] at h9
      cases h9
      rfl
     obtain ⟨A4, c4, e4, aw, bs, -⟩ := bk _ (aB au)
     dsimp only at e4 aw af
     subst e4
     have a1 : tb < cc.names.length := (List.getElem?_eq_some_iff.1 ah).1
     obtain ⟨adb, dd, rfl, ar, ae⟩ := aw.get a1
     rw [ah] at ar
     cases ar
     have al : oA μ2 ⟨xb, 0 + 0, none⟩ (.slice (some ads) q.cs.length c) := by
      have h := k 0 _ rfl
      rw [KI] at h
      exact h
     have ag := fun w μc hw (hle : MLe μ2 μc) => VM w μc hw xb (some ads) c q.cs _ _ _ _ _ (fun j y hj => (k j y hj).mono hle) (bn.mono hle) u9.scope ts av (by have := x.1; rw [← lG, g] at bj; omega)
     rw [g] at ag
     have ho : zL lE ⟨u9, ts, tb, true, fn⟩ = if d9.held = true then { u9 with wh := 1, slot := d9.slot, hops := (oG lE (u9.scope.toNat + 1) u9.scope ts : Nat) } else { u9 with wh := 0, slot := d9.slot } := by
      unfold zL
      rw [if_pos rfl]
      dsimp only
      rw [bf]
     rw [ho] at d
     generalize ((iA f t).uses.take i).map (zL lE) = acc at d an ⊢
     generalize oG lE (u9.scope.toNat + 1) u9.scope ts = ak at ag d
     obtain ⟨nm, kd, hd, sl⟩ := d9
     dsimp only at d ae
     cases hd with
     | false =>
       rw [if_neg (by simp)] at d
       try repeat' (first | refine KO ?_ | (refine KV (b := by first | exact U1 i | exact U4 ad) (c := ?_)) | refine KZ ?_ | refine NB fun b => ?_)
       refine aT 17 _ (by kernel_rfl) rfl (aC aQ) ?_
       all_goals (refine D1 0 ?_; refine D1 1 ?_; refine D1 2 ?_; refine D2 3 rfl (by ((with_reducible apply jR); exact rfl; exact rfl; exact al)) ?_; refine D1 4 ?_; refine D1 5 ?_; refine DD 6 ?_; refine D2 7 rfl (by exact U1 ts) ?_; refine DD 8 ?_; refine D2 9 rfl (by exact U4 af) ?_; refine D1 10 ?_; refine D1 11 ?_; refine DD 12 ?_; refine D2 13 rfl (by exact U1 tb) ?_; refine D2 14 rfl (by exact U4 ae) ?_; refine D3 15 ?_; refine D5 ?_; refine NB fun b => ?_; refine D9 ?_; refine D3 16 ?_; refine D5 ?_; refine Y0 ?_; refine D9 ?_; refine D8 ?_)
       all_goals try repeat' (refine KZ ?_)
       all_goals
        refine aT 8 _ (by kernel_rfl) rfl (aC (dG aQ)) ?_
        all_goals (refine DD 0 ?_; refine DD 1 ?_; refine DD 2 ?_; refine DD 3 ?_; refine D3 4 ?_; refine D5 ?_; refine Y0 ?_; refine D9 ?_; refine DD 5 ?_; refine DD 6 ?_; refine D3 7 ?_; refine D5 ?_; refine Y0 ?_; refine D9 ?_; refine D8 ?_)
       all_goals try repeat' (first | refine KZ ?_ | (((with_reducible apply oZ); (iterate 3 exact rfl); (repeat first | with_reducible exact fE | with_reducible apply fV); (iterate 6 exact rfl); (((with_reducible apply jS); exact rfl; (repeat with_reducible exact fO); exact rfl)); exact rfl; exact gB (by (repeat first | with_reducible exact fS | ((with_reducible apply eY); exact rfl))); omega; omega; intro v)) | refine NB fun b => ?_)
       all_goals refine gL (L' := [_]) (LP (.refl _) (.nil _)) ?_
       all_goals refine gC (n' := (acc ++ [{ u9 with wh := 0, slot := sl }]).length) (xs' := (acc ++ [{ u9 with wh := 0, slot := sl }]).flatMap aC4) 0 rfl (by simp) (by simp) ?_
       all_goals exact cP (i + 1, _) (by dsimp only; omega) (by dsimp only; omega) rfl PU (by dsimp only; rw [d]; exact eW _)
     | true =>
       rw [if_pos rfl] at d
       try repeat' (first | refine KO ?_ | (refine KV (b := by first | exact U1 i | exact U4 ad) (c := ?_)) | refine KZ ?_ | refine NB fun b => ?_)
       refine aT 17 _ (by kernel_rfl) rfl (aC aQ) ?_
       all_goals (refine D1 0 ?_; refine D1 1 ?_; refine D1 2 ?_; refine D2 3 rfl (by ((with_reducible apply jR); exact rfl; exact rfl; exact al)) ?_; refine D1 4 ?_; refine D1 5 ?_; refine DD 6 ?_; refine D2 7 rfl (by exact U1 ts) ?_; refine DD 8 ?_; refine D2 9 rfl (by exact U4 af) ?_; refine D1 10 ?_; refine D1 11 ?_; refine DD 12 ?_; refine D2 13 rfl (by exact U1 tb) ?_; refine D2 14 rfl (by exact U4 ae) ?_; refine D3 15 ?_; refine D5 ?_; refine NB fun b => ?_; refine D9 ?_; refine D3 16 ?_; refine D5 ?_; refine Y0 ?_; refine D9 ?_; refine D8 ?_)
       all_goals try repeat' (refine KZ ?_)
       all_goals
        refine aT 8 _ (by kernel_rfl) rfl (aC (dG aQ)) ?_
        all_goals (refine DD 0 ?_; refine DD 1 ?_; refine DD 2 ?_; refine DD 3 ?_; refine D3 4 ?_; refine D5 ?_; refine Y0 ?_; refine D9 ?_; refine DD 5 ?_; refine DD 6 ?_; refine D3 7 ?_; refine D5 ?_; refine Y0 ?_; refine D9 ?_; refine D8 ?_)
       all_goals try repeat' (first | refine KO ?_ | refine K2 22 ag ?_ | refine KZ ?_ | (((with_reducible apply oZ); (iterate 3 exact rfl); (repeat first | with_reducible exact fE | with_reducible apply fV); (iterate 6 exact rfl); (((with_reducible apply jS); exact rfl; (repeat with_reducible exact fO); exact rfl)); exact rfl; exact gB (by (repeat first | with_reducible exact fS | ((with_reducible apply eY); exact rfl))); omega; omega; intro v)) | refine NB fun b => ?_)
       all_goals refine gL (L' := [_]) (LP (.refl _) (.nil _)) ?_
       all_goals refine gC (n' := (acc ++ [{ u9 with wh := 1, slot := sl, hops := (ak : Int) }]).length) (xs' := (acc ++ [{ u9 with wh := 1, slot := sl, hops := (ak : Int) }]).flatMap aC4) 0 rfl (by simp) (by simp) ?_
       all_goals exact cP (i + 1, _) (by dsimp only; omega) (by dsimp only; omega) rfl PU (by dsimp only; rw [d]; exact eW _)
  ·have bb : i = (iA f t).uses.length := by omega
   subst bb
   rw [aG (aD _)]
   try repeat' (refine KZ ?_)
   refine DP rfl (cN rfl) (cN rfl) (fun μ' bp bo => .inr ⟨ab, _, rfl, ?_⟩)
   rw [ba]
   obtain ⟨A9, c9, e9, bm⟩ := sT (enc := aC4) (xs := (iA f t).uses.map (zL lE)) (bo _ (aF ..)) rfl (by simp) rfl
   exact ⟨A9, c9, e9, bm⟩
 ·exact DP rfl (cN rfl) (cN rfl) (fun μ' _ _ => .inl ⟨ab, rfl⟩)
end
section
open Go.RowKit Go.Vcg Go.MapKept
attribute [local irreducible] oG gN
attribute [local irreducible] jN dU eP bN dV eG anI jE fZ G GC GQ GA eN Calls IntKind.wrap Int.decLt Int.decLe
end
section
open Go.RowKit Go.Vcg Go.MapKept
noncomputable def aBx (t : T) : Bool := decide (t.op = 1) && rtB t 1 false && decide ((EE 1600 t).2 = 0)
attribute [local irreducible] rtB EE
attribute [local irreducible] jN dU eP bN dV eG anI jE fZ G GC GQ GA eN Calls IntKind.wrap Int.decLt Int.decLe
theorem aBz (t : T) (u : Value) (w : World) (μ : Mem) (hμ : MOk μ w) (hk : KR μ t.kids u) (h : t.size ≤ 1600) (e : Sh t) (i : qX μ) (hm : tG μ) :
 aV 10 #[.agg (aY t u).toArray] w (.bool (aBx t)) := by
 have ou := hk.one
 have a := fun w μc hw (hle : MLe μ μc) => wW t u w μc hw (hk.mono hle) (by omega) e
 have d := fun w μc hw (hle : MLe μ μc) => UG 1600 t u w μc hw (hk.mono hle) (by omega) h e (i.mono hle) (hm.mono hle)
 generalize c : aBx t = R
 unfold aBx at c
 generalize EE 1600 t = ck at d c
 obtain ⟨c1, c2⟩ := ck
 dsimp only at d c
 refine aE (args := [.agg (aY t u).toArray]) Tryz.func10 rfl Tryz.ntmps10 (by simp) hμ ?_
 by_cases g : t.op = 1
 rotate_left
 ·try repeat' (first | refine KZ ?_ | refine NB fun b => ?_)
  all_goals exact aJ rfl rfl (by rw [← c]; simp [g])
 cases f : rtB t 1 false with
 | false =>
   rw [f] at a c
   try repeat' (first | refine KO ?_ | refine K2 9 a ?_ | refine KZ ?_ | refine NB fun b => ?_)
   all_goals exact aJ rfl rfl (by rw [← c]; simp)
 | true =>
   rw [f] at a c
   try repeat' (first | refine KO ?_ | refine K2 9 a ?_ | refine K2 25 d ?_ | refine KZ ?_ | refine NB fun b => ?_)
   all_goals exact aJ rfl rfl (by rw [← c]; simp [g])
end
section
open Go.RowKit Go.Vcg Go.MapKept
def FI : T := T.mk 34 33 0 0 ⟨#[120]⟩ []
def qC : T := T.mk 17 26 0 0 ⟨#[]⟩ [FI]
def pS : T := T.mk 6 24 0 0 ⟨#[]⟩ [qC]
def AB : T := T.mk 5 21 0 0 ⟨#[]⟩ []
def mI : T := T.mk 4 11 1 0 ⟨#[102]⟩ [AB, pS]
def PL : T := T.mk 34 4 0 0 ⟨#[120]⟩ []
def AD : T := T.mk 30 8 1 0 ⟨#[]⟩ []
def qD : T := T.mk 3 4 0 0 ⟨#[]⟩ [PL, AD]
def pR : T := T.mk 2 0 1 0 ⟨#[]⟩ [qD]
def nI : T := T.mk 1 0 0 0 ⟨#[]⟩ [pR, mI]
attribute [local irreducible] jN dU eP bN dV eG anI jE fZ G GC GQ GA eN Calls IntKind.wrap Int.decLt Int.decLe
theorem zZ (w : World) (μ : Mem) (hμ : MOk μ w) :
 Calls Tryz.prog 19 #[] w fun e w' => ∃ v μ', e = .returned v ∧ tB w w' μ μ' ∧ ∃ u, v = .agg (aY nI u).toArray ∧ KR μ' nI.kids u := by
 refine aE (args := []) Tryz.func19 rfl Tryz.ntmps19 (by simp) hμ ?_
 try repeat' (first | refine KZ ?_ | refine NB fun b => ?_)
 rename_i b0 bx s6 s8 s10 b2 s14 s16
 refine qI rfl (aD7 (vs := aY nI (.slice (some ⟨b, 0, none⟩) 2 2)) 8 rfl rfl rfl rfl rfl (by repeat first | exact bZ | refine bH rfl ?_)) (fun μ' j hL => ?_)
 have d := hL _ (aF ..)
 have f := hL _ (cK (aF ..))
 have g := hL _ (cK (cK (aF ..)))
 have h := hL _ (cK (cK (cK (cK (aF ..)))))
 have k := hL _ (cK (cK (cK (cK (cK (aF ..))))))
 have h6 := hL _ (cK (cK (cK (cK (cK (cK (aF ..)))))))
 have k6 : KR μ' qC.kids (Value.slice (some ⟨s6, 0, none⟩) 1 1) := KR.oR (c := 1) (ps := [(FI, Value.slice none 0 0)]) (wA h6 (fun i v hv => rA hv)) (aD _) (fun p a => by rw [aR.1 a]; exact KR.nil _ _ _)
 have k8 : KR μ' pS.kids (Value.slice (some ⟨s8, 0, none⟩) 1 1) := KR.oR (c := 1) (ps := [(qC, Value.slice (some ⟨s6, 0, none⟩) 1 1)]) (wA k (fun i v hv => rA hv)) (aD _) (fun p a => by rw [aR.1 a]; exact k6)
 have k10 : KR μ' mI.kids (Value.slice (some ⟨s10, 0, none⟩) 2 2) := KR.oR (c := 2) (ps := [(AB, Value.slice none 0 0), (pS, Value.slice (some ⟨s8, 0, none⟩) 1 1)]) (wA h (fun i v hv => rA hv)) (aD _) (fun p a => by
  rcases aW.1 a with rfl | a
  ·exact KR.nil _ _ _
  ·rw [aR.1 a]; exact k8)
 have k14 : KR μ' qD.kids (Value.slice (some ⟨s14, 0, none⟩) 2 2) := KR.oR (c := 2) (ps := [(PL, Value.slice none 0 0), (AD, Value.slice none 0 0)]) (wA g (fun i v hv => rA hv)) (aD _) (fun p a => by
  rcases aW.1 a with rfl | a
  ·exact KR.nil _ _ _
  ·rw [aR.1 a]; exact KR.nil _ _ _)
 have k16 : KR μ' pR.kids (Value.slice (some ⟨s16, 0, none⟩) 1 1) := KR.oR (c := 1) (ps := [(qD, Value.slice (some ⟨s14, 0, none⟩) 2 2)]) (wA f (fun i v hv => rA hv)) (aD _) (fun p a => by rw [aR.1 a]; exact k14)
 exact ⟨_, rfl, KR.oR (c := 2) (ps := [(pR, Value.slice (some ⟨s16, 0, none⟩) 1 1), (mI, Value.slice (some ⟨s10, 0, none⟩) 2 2)]) (wA d (fun i v hv => rA hv)) (aD _) (fun p a => by
  rcases aW.1 a with rfl | a
  ·exact k16
  ·rw [aR.1 a]; exact k10)⟩
end
section
open Go.RowKit Go.Vcg
attribute [local irreducible] G GC GQ GA eN Calls IntKind.wrap Int.decLt Int.decLe
end
section
open Go.RowKit Go.Vcg
def aF1 : ByteArray := "fresh9".toUTF8
theorem aG7 (a e : Int) (s : ES) : jC false a e s = s := by unfold jC; rw [if_neg (by simp)]
def sg (r : Int) : Int := if 0 < r then r + 1 else r
theorem VN {a c : Int} : sg a = sg c ↔ a = c := by unfold sg; split <;> split <;> omega
theorem aD4 (a : Int) : sg a ≠ 1 := by unfold sg; split <;> omega
def sgD (d : ED) : ED := ⟨d.lex, d.ins.map sg, sg d.par, d.twice⟩
theorem UK (r : Int) (l : List Int) : (l.map sg).contains (sg r) = l.contains r := by
 induction l with
 | nil => rfl
 | cons a l ih =>
   rw [aO, lY, lY, ih]
   congr 1
   by_cases h : r = a
   ·subst h; simp
   ·rw [beq_false_of_ne h, beq_false_of_ne (fun e => h (VN.1 e))]
theorem aG0 (a c : ED) : nV (sgD a) (sgD c) = nV a c := by
 unfold nV sgD
 dsimp only
 have h1 : sg c.par ≠ 0 ↔ c.par ≠ 0 := by
  exact not_congr ((show sg c.par = 0 ↔ sg c.par = sg 0 from Iff.rfl).trans VN)
 simp only [h1, VN]
 congr 2
 rw [hH]
 congr 1
 funext r
 exact UK r c.ins
def fr1 : ED := ⟨false, [1], 0, false⟩
theorem aG1 (c : ED) : nV fr1 (sgD c) = false := by
 unfold nV fr1 sgD
 dsimp only
 rw [if_neg (fun h => h.2.1 h.2.2.symm)]
 have : (c.ins.map sg).contains 1 = false := by
  rw [List.contains_eq_mem, decide_eq_false_iff_not, List.mem_map]
  rintro ⟨a, -, h⟩
  exact aD4 a h
 simp [this]
 intro _ x _ h
 exact absurd h (aD4 x)
def SR (s s' : ES) : Prop := s.e ≠ 0 ∨ (s.e = 0 ∧ s'.e = 0 ∧ s'.at' = 0 ∧ s'.regs = s.regs + 1 ∧ ∀ x, oL x s'.names = (if x = aF1 then [fr1] else []) ++ (oL x s.names).map sgD)
theorem SR.bad {s s' : ES} (h : SR s s') {c c' : Bool} (hc : s.e = 0 → c' = true → c = true) {e : Int} (he : e ≠ 0) (a : Int) : SR (jC c a e s) (jC c' a e s') := by
 rcases h with h | ⟨h0, h1, h2, h3, h4⟩
 ·rw [NO h]; exact .inl h
 cases c with
 | true =>
   left
   unfold jC
   rw [if_pos ⟨rfl, h0⟩]
   exact he
 | false =>
   cases c' with
   | true => cases hc h0 rfl
   | false =>
     rw [aG7, aG7]
     exact .inr ⟨h0, h1, h2, h3, h4⟩
theorem SR.decl {s s' : ES} (h : SR s s') (a : Int) (x : ByteArray) (d : ED) : SR (uW a x d s) (uW a x (sgD d) s') := by
 have hb : SR (jC ((oL x s.names).any fun o => nV o d) a 30 s) (jC ((oL x s'.names).any fun o => nV o (sgD d)) a 30 s') := by
  by_cases he : s.e = 0
  ·have c := h
   rcases h with h | ⟨h0, h1, h2, h3, h4⟩
   ·exact absurd he h
   refine c.bad (fun _ => ?_) (by decide) a
   rw [h4 x, List.any_append, hH]
   have e1 : ((if x = aF1 then [fr1] else []) : List ED).any (fun o => nV o (sgD d)) = false := by
    split
    ·simp [aG1]
    ·rfl
   have e2 : ((fun o => nV o (sgD d)) ∘ sgD) = fun o => nV o d := by
    funext o
    exact aG0 o d
   rw [e1, e2, mA]
   exact fun h => h
  ·exact h.bad (fun h => absurd h he) (by decide) a
 unfold uW
 dsimp only
 rcases hb with hb | ⟨h0, h1, h2, h3, h4⟩
 ·exact .inl hb
 refine .inr ⟨h0, h1, h2, h3, fun y => ?_⟩
 dsimp only
 rw [CL, CL]
 by_cases b : y = x
 ·subst b
  rw [if_pos rfl, if_pos rfl, h4 y, bI, bO]
  rfl
 ·rw [if_neg b, if_neg b]
  exact h4 y
theorem SR.name {s s' : ES} (h : SR s s') (wd : ByteArray → Int) (t : T) (x : ByteArray) {p p' : EP} (hg : p'.gen = p.gen) (hs : p'.strict = p.strict) : SR (pG wd t x p s) (pG wd t x p' s') := by
 unfold pG
 dsimp only
 rw [hg, hs]
 refine SR.bad ?_ (fun _ h => h) (by decide) _
 split
 ·exact (h.bad (fun _ h => h) (by decide) _).bad (fun _ h => h) (by decide) _
 ·exact h.bad (fun _ h => h) (by decide) _
theorem SR.with {s s' : ES} (h : SR s s') : SR (gA s) (gA s') := by
 rcases h with h | ⟨h0, h1, h2, h3, h4⟩
 ·exact .inl h
 ·exact .inr ⟨h0, h1, h2, by show s'.regs + 1 = s.regs + 1 + 1; omega, h4⟩
end
section
open Go.RowKit Go.Vcg Ou
theorem aAe {x : ByteArray} (h : bl x ≠ [] ∧ (bl x).all (fun c => decide (QD c.toNat ∨ UU c.toNat)) = true ∧ ∀ c, (bl x)[0]? = some c → QD c.toNat) : jU x = true := by
 refine PG ⟨h.1, fun i c hc => ?_⟩
 cases i with
 | zero => exact .inl (h.2.2 c hc)
 | succ i =>
   rcases of_decide_eq_true (eD.1 h.2.1 c (aB hc)) with h1 | h1
   ·exact .inl h1
   ·exact .inr ⟨by simp, h1⟩
theorem aF2 : jU ⟨#[120]⟩ = true := aAe ⟨by decide +kernel, by decide +kernel, fun c hc => by
 have e : (bl ⟨#[120]⟩)[0]? = some 120 := by decide +kernel
 rw [e] at hc
 cases hc
 decide +kernel⟩
theorem EX {t : T} {s : Bool} (a : knR t.op) (b : 0 ≤ t.at') (hm : t.m = 0) (h4 : t.op ≠ 4) (hn : 0 ≤ t.n ∧ t.n ≤ kC t.op) (hw : mT t = true) (hl : gU t = false) : Nd t s := by
 refine ⟨(yV _).2 a, ?_, fun h => by rw [hl] at h; cases h.1⟩
 unfold lZ
 have hb : zO t = false := by
  unfold zO
  rw [decide_eq_false (show ¬t.at' < 0 by omega), decide_eq_false (fun h => h hm)]
  rfl
 rw [if_neg (by rw [hb]; simp), if_neg h4, decide_eq_true hn.1, decide_eq_true hn.2, hw]
 rfl
theorem ZF {x : ByteArray} {at' : Int} (b : 0 ≤ at') (a : jU x = true) {d : Nat} (hd : d ≤ 200) (s : Bool) : Rt (.mk 34 at' 0 0 x []) d s := by
 refine .mk hd (EX (by unfold knR; simp [T.op]) b rfl (by simp [T.op]) ⟨nK _, by simp [kC, T.op, T.n]⟩ ?_ (by simp [gU, T.op])) ?_ fun i k hk => by simp [T.kids] at hk
 ·unfold mT
  simp [T.op, T.s, a]
 ·unfold bC exB
  simp [T.op, T.kids]
theorem eK.imp {p q : T → Prop} (a : ∀ t, p t → q t) {t : T} (h : eK p t) : eK q t := by
 induction h with
 | mk h _ ih => exact .mk (a _ h) ih
theorem eK.and {p q : T → Prop} {t : T} (h : eK p t) (h2 : eK q t) : eK (fun t => p t ∧ q t) t := by
 induction h with
 | mk h _ ih => exact .mk ⟨h, h2.here⟩ fun k hk => ih k hk (h2.kid hk)
theorem HG {t : T} (h : eK (fun t => t.s.size ≤ 4000 ∧ kO t.op ∧ kO t.n ∧ kO t.m) t) : Sh t := by
 induction h with
 | mk h _ ih => exact .mk h.1 h.2.1 h.2.2.1 h.2.2.2 ih
end
section
open Go.RowKit Go.Vcg
theorem aK5 : Sh nI := HG (by
 have h0 : (⟨#[]⟩ : ByteArray).size ≤ 4000 := by decide
 have e : (⟨#[120]⟩ : ByteArray).size ≤ 4000 := by decide
 have hf : (⟨#[102]⟩ : ByteArray).size ≤ 4000 := by decide
 have q : ∀ {s : ByteArray} {a b c : Int}, s.size ≤ 4000 → kO a → kO b → kO c → s.size ≤ 4000 ∧ kO a ∧ kO b ∧ kO c := fun a b c d => ⟨a, b, c, d⟩
 have z0 : kO 0 := by unfold kO; omega
 have z1 : kO 1 := by unfold kO; omega
 refine .mk (q h0 z1 z0 z0) fun k hk => ?_
 rcases aW.1 hk with rfl | hk
 ·refine .mk (q h0 (by unfold kO; simp [pR, T.op]) (by unfold kO; simp [pR, T.n]) (by unfold kO; simp [pR, T.m])) fun k hk => ?_
  rw [aR.1 hk]
  refine .mk (q h0 (by unfold kO; simp [qD, T.op]) (by unfold kO; simp [qD, T.n]) (by unfold kO; simp [qD, T.m])) fun k hk => ?_
  rcases aW.1 hk with rfl | hk
  ·exact .mk (q e (by unfold kO; simp [PL, T.op]) (by unfold kO; simp [PL, T.n]) (by unfold kO; simp [PL, T.m])) fun k hk => by cases hk
  ·rw [aR.1 hk]
   exact .mk (q h0 (by unfold kO; simp [AD, T.op]) (by unfold kO; simp [AD, T.n]) (by unfold kO; simp [AD, T.m])) fun k hk => by cases hk
 ·rw [aR.1 hk]
  refine .mk (q hf (by unfold kO; simp [mI, T.op]) (by unfold kO; simp [mI, T.n]) (by unfold kO; simp [mI, T.m])) fun k hk => ?_
  rcases aW.1 hk with rfl | hk
  ·exact .mk (q h0 (by unfold kO; simp [AB, T.op]) (by unfold kO; simp [AB, T.n]) (by unfold kO; simp [AB, T.m])) fun k hk => by cases hk
  ·rw [aR.1 hk]
   refine .mk (q h0 (by unfold kO; simp [pS, T.op]) (by unfold kO; simp [pS, T.n]) (by unfold kO; simp [pS, T.m])) fun k hk => ?_
   rw [aR.1 hk]
   refine .mk (q h0 (by unfold kO; simp [qC, T.op]) (by unfold kO; simp [qC, T.n]) (by unfold kO; simp [qC, T.m])) fun k hk => ?_
   rw [aR.1 hk]
   exact .mk (q e (by unfold kO; simp [FI, T.op]) (by unfold kO; simp [FI, T.n]) (by unfold kO; simp [FI, T.m])) fun k hk => by cases hk)
theorem GW : nI.size ≤ 20 := by simp [nI, pR, qD, PL, AD, mI, AB, pS, qC, FI, T.size_eq, T.kids]
theorem aM2 : jU ⟨#[102]⟩ = true := aAe ⟨by decide +kernel, by decide +kernel, fun c hc => by
 have e : (bl ⟨#[102]⟩)[0]? = some 102 := by decide +kernel
 rw [e] at hc
 cases hc
 decide +kernel⟩
theorem wd0 {t : T} (h : t.s = ⟨#[]⟩) (h1 : t.op ≠ 23 ∧ t.op ≠ 34 ∧ t.op ≠ 51 ∧ ¬(42 ≤ t.op ∧ t.op ≤ 46)) : mT t = true := by
 unfold mT
 rw [h]
 split
 ·rfl
 ·rw [if_neg (by omega)]
  split
  ·rfl
  ·rw [if_neg (by omega), if_neg (by omega), if_neg (by omega), if_neg (by omega), if_neg (by omega)]
   rfl
theorem PH : fC (fT mI) 5 = 1 ∧ fT mI 1 = true ∧ fT mI 4 = false ∧ fT mI 128 = false := by decide +kernel
theorem aMf (s : Bool) : Nd mI s := by
 refine ⟨(yV _).2 (by unfold knR; simp [mI, T.op]), ?_, fun h => by have : gU mI = false := rfl; rw [this] at h; cases h.1⟩
 have hb : zO mI = false := rfl
 obtain ⟨f1, f2, f3, f4⟩ := PH
 unfold lZ
 rw [if_neg (by rw [hb]; simp), if_pos (show mI.op = 4 from rfl)]
 unfold wK
 rw [f1, f2, f3, f4]
 have a : jU mI.s = true := aM2
 have hn : mI.n = 1 := rfl
 rw [a, hn]
 rw [if_neg (by simp), if_neg (by simp), if_pos rfl]
 decide
theorem aMs : bC mI = true := by
 have h4 : fT mI 128 = false := PH.2.2.2
 unfold bC stB
 simp only [mI, T.op, T.kids]
 simp only [show (4 : Int) ≤ 23 by omega, show ¬((4 : Int) = 1 ∨ (4 : Int) = 6) by omega, show ¬(4 : Int) = 2 by omega, show ¬(4 : Int) = 3 by omega, if_false, if_true]
 unfold eI wJ
 rw [show fT (T.mk 4 11 1 0 ⟨#[102]⟩ [AB, pS]) 128 = false from h4]
 simp only [aO, gZ]
 rw [qQ]
 dsimp only
 rw [if_pos (by simp [ofT, AB, T.op]), qQ]
 dsimp only
 rw [if_pos (by simp [ofT, pS, T.op])]
 exact lN []
theorem ZG {op at' n : Int} {s : ByteArray} {d : Nat} {sp : Bool} (hd : d ≤ 200) (hn : Nd (.mk op at' n 0 s []) sp) (hk : bC (.mk op at' n 0 s []) = true) : Rt (.mk op at' n 0 s []) d sp := .mk hd hn hk fun i k h => by simp [T.kids] at h
theorem aL1 {d : Nat} (hd : d ≤ 200) (s : Bool) : Rt AD d s := ZG hd (EX (by unfold knR; simp [T.op]) (by simp [T.at']) rfl (by simp [T.op]) (by simp [kC, T.op, T.n]) (wd0 rfl (by simp [T.op])) (by simp [gU, T.op])) (by unfold bC exB; simp [T.op, T.kids])
theorem aL0 {d : Nat} (hd : d ≤ 200) (s : Bool) : Rt AB d s := ZG hd (EX (by unfold knR; simp [T.op]) (by simp [T.at']) rfl (by simp [T.op]) (by simp [kC, T.op, T.n]) (wd0 rfl (by simp [T.op])) (by simp [gU, T.op])) (by
 unfold bC stB
 simp only [T.op, T.kids]
 simp only [show (5 : Int) ≤ 23 by omega, show ¬((5 : Int) = 1 ∨ (5 : Int) = 6) by omega, show ¬(5 : Int) = 2 by omega, show ¬(5 : Int) = 3 by omega, show ¬(5 : Int) = 4 by omega, if_false, if_true]
 rw [XK, List.dropWhile_nil, PI]
 exact lN [])
theorem aLz {d : Nat} (hd : d ≤ 199) (s : Bool) : Rt qC d s := .mk (by omega) (EX (by unfold knR; simp [qC, T.op]) (by simp [qC, T.at']) rfl (by simp [qC, T.op]) (by simp [kC, qC, T.op, T.n]) (wd0 rfl (by simp [qC, T.op])) (by simp [qC, gU, T.op])) (by
 unfold bC stB
 simp [qC, T.op, T.kids, iS, bR, FI]) fun i k h => by
  cases i with
  | zero =>
    have h : some FI = some k := h
    cases h
    exact ZF (by omega) aF2 (by omega) _
  | succ i => simp [qC, T.kids] at h
theorem aL4 {d : Nat} (hd : d ≤ 198) (s : Bool) : Rt pS d s := .mk (by omega) (EX (by unfold knR; simp [pS, T.op]) (by simp [pS, T.at']) rfl (by simp [pS, T.op]) (by simp [kC, pS, T.op, T.n]) (wd0 rfl (by simp [pS, T.op])) (by simp [pS, gU, T.op])) (by
 unfold bC stB
 simp [pS, T.op, T.kids, iS, fJ, qC]) fun i k h => by
  cases i with
  | zero =>
    have h : some qC = some k := h
    cases h
    exact aLz (by omega) _
  | succ i => simp [pS, T.kids] at h
theorem aL2 {d : Nat} (hd : d ≤ 197) (s : Bool) : Rt mI d s := .mk (by omega) (aMf s) aMs fun i k h => by
 cases i with
 | zero =>
   have h : some AB = some k := h
   cases h
   exact aL0 (by omega) _
 | succ i =>
   cases i with
   | zero =>
     have h : some pS = some k := h
     cases h
     exact aL4 (by omega) _
   | succ i => simp [mI, T.kids] at h
theorem aL3 {d : Nat} (hd : d ≤ 199) (s : Bool) : Rt qD d s := by
 refine .mk (by omega) (EX (by unfold knR; simp [qD, T.op]) (by simp [qD, T.at']) rfl (by simp [qD, T.op]) (by simp [kC, qD, T.op, T.n]) (wd0 rfl (by simp [qD, T.op])) (by simp [qD, gU, T.op])) ?_ fun i k h => ?_
 ·unfold bC stB
  simp only [qD, T.op, T.kids]
  simp only [show ¬((3 : Int) = 1 ∨ (3 : Int) = 6) by omega, show ¬(3 : Int) = 2 by omega, if_false, if_true, show (3 : Int) ≤ 23 by omega]
  rw [qQ]
  dsimp only
  rw [if_pos (show cW PL = true by simp [cW, iE, PL, T.op]), PI]
  dsimp only
  rw [if_pos (show bR AD = true by simp [bR, AD, T.op])]
  exact lN []
 ·cases i with
  | zero =>
    have h : some PL = some k := h
    cases h
    exact ZF (by omega) aF2 (by omega) _
  | succ i =>
    cases i with
    | zero =>
      have h : some AD = some k := h
      cases h
      exact aL1 (by omega) _
    | succ i => simp [qD, T.kids] at h
theorem aLy {d : Nat} (hd : d ≤ 198) (s : Bool) : Rt pR d s := by
 refine .mk (by omega) (EX (by unfold knR; simp [pR, T.op]) (by simp [pR, T.at']) rfl (by simp [pR, T.op]) (by simp [kC, pR, T.op, T.n]) (wd0 rfl (by simp [pR, T.op])) (by simp [pR, gU, T.op])) ?_ fun i k h => ?_
 ·unfold bC stB
  simp [pR, T.op, T.kids, iS, ofT, qD]
 ·cases i with
  | zero =>
    have h : some qD = some k := h
    cases h
    exact aL3 (by omega) _
  | succ i => simp [pR, T.kids] at h
theorem aK6 : rtB nI 1 false = true := ZH (by
 refine .mk (by omega) (EX (by unfold knR; simp [nI, T.op]) (by simp [nI, T.at']) rfl (by simp [nI, T.op]) (by simp [kC, nI, T.op, T.n]) (wd0 rfl (by simp [nI, T.op])) (by simp [nI, gU, T.op])) ?_ fun i k h => ?_
 ·unfold bC stB
  have h1 : fJ pR = true := by simp [fJ, pR, T.op]
  have h2 : fJ mI = true := by
   unfold fJ
   rw [if_pos (show mI.op = 4 from rfl)]
   exact PH.2.1
  simp only [nI, T.op, T.kids]
  simp only [show (1 : Int) ≤ 23 by omega, if_true, true_or]
  unfold iS
  simp [h1, h2]
 ·cases i with
  | zero =>
    have h : some pR = some k := h
    cases h
    exact aLy (by omega) _
  | succ i =>
    cases i with
    | zero =>
      have h : some mI = some k := h
      cases h
      exact aL2 (by omega) _
    | succ i => simp [nI, T.kids] at h)
def exL : List Sc := [⟨-1, 0, 0, 0, [⟨⟨#[120]⟩, 1, true, 0⟩]⟩, ⟨0, 1, 1, 11, []⟩]
def aPe : Us := ⟨4, 0, 1, 0, 0, 1, ⟨#[120]⟩, false⟩
def aNa : Us := ⟨33, 1, 1, 0, 0, 1, ⟨#[120]⟩, true⟩
theorem NC : sF (iA 20 nI) = exL := by kernel_rfl
theorem aJr : (iA 20 nI).uses.map (zL exL) = [aPe, aNa] := by kernel_rfl
theorem aGl : ¬4096 < fG (iA 20 nI).scopes := by decide +kernel
open Go.MapKept
theorem aOk {μ : Mem} {v : Value} (h : tY 20 nI μ v) : ∃ ad c ad2 c2, v = .tuple #[.slice (some ad) 2 c, .int .i64 0] ∧ eM μ (ad.add (0 * 5)) [.int .i64 (-1), .int .i64 0, .int .i64 0, .int .i64 0, .slice (some ad2) 1 c2] ∧ eM μ (ad2.add (0 * 4)) [.string ⟨#[120]⟩, .int .i64 1, .bool true, .int .i64 0] := by
 rcases h with ⟨h, -⟩ | ⟨-, A, c, ps, rfl, ⟨k, -, e⟩, b⟩
 ·exact absurd h aGl
 rw [NC] at b
 have hl : ps.length = 2 := by
  have := congrArg List.length b
  rw [lG] at this
  exact this
 obtain ⟨ad, y, rfl, j, hm⟩ := k.get (show 0 < ps.length by omega)
 obtain ⟨cy, v⟩ := y
 have f := jB j
 rw [b] at f
 have f : some (⟨-1, 0, 0, 0, [⟨⟨#[120]⟩, 1, true, 0⟩]⟩ : Sc) = some cy := f
 cases f
 have d := e _ (aB j)
 dsimp only at d hm
 obtain ⟨A2, c2, rfl, i, -⟩ := d
 obtain ⟨ad2, y2, rfl, a, g⟩ := i.get (show 0 < 1 by omega)
 have a : some (⟨⟨#[120]⟩, 1, true, 0⟩ : Bd) = some y2 := a
 cases a
 rw [hl]
 exact ⟨ad, c, ad2, c2, rfl, hm, g⟩
theorem aHo {μ : Mem} {v : Value} (h : zH 20 nI μ v) : ∃ ad c, v = .tuple #[.slice (some ad) 2 c, .int .i64 0] ∧ eM μ (ad.add (1 * 8)) [.int .i64 33, .int .i64 1, .int .i64 1, .int .i64 0, .int .i64 0, .int .i64 1, .string ⟨#[120]⟩, .bool true] := by
 rcases h with ⟨h, -⟩ | ⟨-, r, rfl, A, c, rfl, b⟩
 ·exact absurd h aGl
 rw [NC, aJr] at b ⊢
 obtain ⟨ad, y, rfl, a, hm⟩ := b.get (show 1 < [aPe, aNa].length by decide)
 have a : some aNa = some y := a
 cases a
 exact ⟨ad, c, rfl, hm⟩
theorem aK7 : nI.op = 1 := rfl
attribute [local irreducible] sF iA rtB tY zH nI
attribute [local irreducible] jN dU eP bN dV eG anI jE fZ G GC GQ GA eN Calls IntKind.wrap Int.decLt Int.decLe
theorem SS (w : World) (μ : Mem) (hμ : MOk μ w) (g : qX μ) :
 aV 6 #[] w (.bool true) := by
 refine aE (args := []) Tryz.func6 rfl Tryz.ntmps6 (by simp) hμ ?_
 try repeat' (first | ((with_reducible show GC _ _ (Code.seq (Code.region 2 _ _) _) _ _ _ _); (apply dF)) | refine KO ?_ | ((with_reducible apply F2 19); exact rfl; exact EN; exact fun w hw => zZ w _ hw; rintro vA μA i ⟨uA, rfl, k⟩; have r := k.one; have g := g.mono i) | ((with_reducible apply F2 12); exact rfl; exact EN; exact fun w hw => QN 20 nI uA w _ hw k (dO GW (by decide)) GW aK5 g aK7 aK6; rintro vB μB h o; obtain ⟨ad, c, ad2, c2, rfl, d, a⟩ := aOk o; have g := g.mono h))
 refine gcs ?_
 try repeat' (first | ((with_reducible show GC _ _ (Code.seq (Code.region 3 _ _) _) _ _ _ _); (apply dF)) | refine KO ?_ | ((with_reducible apply F2 19); exact rfl; exact EN; exact fun w hw => zZ w _ hw; rintro vC μC e ⟨uC, rfl, j⟩; have q := j.one; have g := g.mono e; have d := d.mono e; have a := a.mono e) | ((with_reducible apply F2 8); exact rfl; exact EN; exact fun w hw => VE 20 nI uC w _ hw j (dO GW (by decide)) GW aK5 g aK7 aK6; rintro vD μD f l; obtain ⟨ad3, c3, rfl, p⟩ := aHo l; have d := d.mono f; have a := a.mono f))
 refine gcs ?_
 try repeat' (first | refine KO ?_ | (refine KV (b := by first | exact U1 0 | exact U1 1 | exact U4 d | exact U4 a | exact U4 p) (c := ?_)) | refine KZ ?_)
 all_goals exact aJ rfl rfl rfl
end
section
open Go.RowKit Go.Vcg Go.MapKept
theorem aOj {f : Nat} {t : T} {μ : Mem} {v : Value} (h : tY f t μ v) (hn : 4096 < fG (iA f t).scopes) : v = .tuple #[.slice none 0 0, .int .i64 9] := by
 rcases h with h | h
 ·exact h.2
 ·exact absurd hn h.1
theorem aMc {f : Nat} {t : T} {μ : Mem} {v : Value} (h : tY f t μ v) (hn : ¬4096 < fG (iA f t).scopes) : ∃ A c ps, v = .tuple #[.slice A ps.length c, .int .i64 0] ∧ ScR μ A ps ∧ scs ps = sF (iA f t) := by
 rcases h with h | h
 ·exact absurd h.1 hn
 ·exact h.2
attribute [local irreducible] sF iA rtB tY zH aBx oG mF findF
attribute [local irreducible] jN dU eP bN dV eG anI jE fZ G GC GQ GA eN Calls IntKind.wrap Int.decLt Int.decLe
end
section
open Go.ChangeShapes Go.WideShapes Go.ChangeAt Go.RowKit Go.Deep Go.Vcg
theorem aHp {W : World} {l : List (String × DataW Unit)} (h : laidMet Tryz.prog l W) (hm : ("strings.asciiSpace", Rows.laid_strings_asciiSpace) ∈ l) : qX (zV W) := by
 obtain ⟨g, t, cs, fuel, p, h1, h2, h3, h4⟩ := Lib.laidMet.reads h hm
 have hg : Tryz.prog.globalNamed "strings.asciiSpace" = some 0 := by kernel_rfl
 obtain rfl := cX (hg.symm.trans h1)
 have ht : (Tryz.prog.globals[0]?).map (·.type) = some 174 := by kernel_rfl
 obtain rfl := cX (ht.symm.trans h2)
 have hd : (Rows.laid_strings_asciiSpace : DataW Unit) = Lib.tabData .u8 Lib.asciiSpaceTab := by rfl
 rw [hd] at h4
 have hc := Lib.cells_of_tab Tryz.underlying174 Tryz.underlying5 (by kernel_rfl) (by kernel_rfl) h4
 intro w hw
 unfold Lib.TabIs World.var?
 unfold World.var? at h3
 rw [hg] at h3 ⊢
 simp only [Option.bind_some] at h3 ⊢
 cases hb : W.heap[0]? with
 | none => rw [hb] at h3; cases h3
 | some o =>
   rw [hw _ o hb]
   rw [hb] at h3
   cases o <;> simp at h3
   rename_i cs' _ _
   subst h3
   simp only [aM]
   rw [← hc]
theorem aIk {W : World} (h : W.ShapedOpen Tryz.prog) : tG (zV W) := by
 obtain ⟨m, hm⟩ := cell_of_shapedOpen_int (g := 2) (t := 3) (zero := #[.int .i64 0]) (k := .i64) h (of_decide_eq_true (by kernel_rfl)) (by kernel_rfl) rfl (by kernel_rfl) (by kernel_rfl) (by kernel_rfl)
 exact ⟨m, oA.ZL hm⟩
end
section
open Go.RowKit Go.Vcg
structure Fl where
 (t : T) (up : Int) (kid fn num last : Nat)
def lW (l : List Fl) : Nat := l.countP fun e => decide (e.t.op = 4)
def gP (f : T → Int → Nat → Nat → Nat → Nat → List Fl) : List T → Int → Nat → Nat → Nat → Nat → List Fl
 | [], _, _, _, _, _ => []
 | k :: r, pa, j, fn, i, c => f k pa j fn i c ++ gP f r pa (j + 1) fn (i + k.size) (c + lW (f k pa j fn i c))
def uH (t : T) (fn c : Nat) : Nat := if t.op = 4 then c + 1 else fn
def lK (t : T) (c : Nat) : Nat := if t.op = 4 then c + 1 else c
def gJ : Nat → T → Int → Nat → Nat → Nat → Nat → List Fl
 | 0, _, _, _, _, _, _ => []
 | n + 1, t, up, kid, fn, i, c => ⟨t, up, kid, fn, if t.op = 4 then c + 1 else 0, i + t.size - 1⟩ :: gP (gJ n) t.kids i 0 (uH t fn c) (i + 1) (lK t c)
theorem vV {f : T → Int → Nat → Nat → Nat → Nat → List Fl} : ∀ (ks : List T) (pa : Int) (j fn i c : Nat), (∀ k ∈ ks, ∀ pa j fn i c, (f k pa j fn i c).length = k.size) → (gP f ks pa j fn i c).length = szs ks
 | [], _, _, _, _, _, _ => rfl
 | k :: r, pa, j, fn, i, c, h => by
   rw [gP, aK, h k (aF ..), vV r _ _ _ _ _ fun k hk => h k (cK hk), cO]
theorem jM {t k : T} {n : Nat} (h : t.size ≤ n + 1) (hk : k ∈ t.kids) : k.size ≤ n := by
 have h1 := bA t
 have h2 : k.size ≤ szs t.kids := T.eF (List.mem_map.2 ⟨k, hk, rfl⟩)
 omega
theorem qP : ∀ (n : Nat) (t : T) (up : Int) (kid fn i c : Nat), t.size ≤ n → (gJ n t up kid fn i c).length = t.size
 | 0, t, _, _, _, _, _, h => by have := bA t; omega
 | n + 1, t, up, kid, fn, i, c, h => by
   rw [gJ, bF, vV t.kids _ _ _ _ _ fun k hk _ _ _ _ _ => qP n k _ _ _ _ _ (jM h hk), bA t]
   omega
theorem yF (a b : List Fl) : lW (a ++ b) = lW a + lW b := by unfold lW; rw [List.countP_append]
def AtG (E : List Fl) (n : Nat) (t : T) (up : Int) (kid fn i c : Nat) : Prop := ∃ pre post, E = pre ++ gJ n t up kid fn i c ++ post ∧ pre.length = i ∧ lW pre = c
def EH (E : List Fl) (n : Nat) (ks : List T) (pa : Int) (j fn i c : Nat) : Prop := ∃ pre post, E = pre ++ gP (gJ n) ks pa j fn i c ++ post ∧ pre.length = i ∧ lW pre = c
theorem AtG.head {E : List Fl} {n : Nat} {t : T} {up : Int} {kid fn i c : Nat} (h : AtG E (n + 1) t up kid fn i c) : E[i]? = some ⟨t, up, kid, fn, if t.op = 4 then c + 1 else 0, i + t.size - 1⟩ := by
 obtain ⟨pre, post, rfl, rfl, rfl⟩ := h
 rw [gJ, bO, aX (aD _), dN]
 rfl
theorem AtG.kids {E : List Fl} {n : Nat} {t : T} {up : Int} {kid fn i c : Nat} (h : AtG E (n + 1) t up kid fn i c) : EH E n t.kids i 0 (uH t fn c) (i + 1) (lK t c) := by
 obtain ⟨pre, post, rfl, rfl, rfl⟩ := h
 refine ⟨pre ++ [⟨t, up, kid, fn, if t.op = 4 then lW pre + 1 else 0, pre.length + t.size - 1⟩], post, ?_, by simp, ?_⟩
 ·rw [gJ]
  simp
 ·rw [yF]
  unfold lK lW
  by_cases h4 : t.op = 4 <;> simp [h4]
theorem EH.hd {E : List Fl} {n : Nat} {k : T} {r : List T} {pa : Int} {j fn i c : Nat} (h : EH E n (k :: r) pa j fn i c) : AtG E n k pa j fn i c := by
 obtain ⟨pre, post, rfl, h1, h2⟩ := h
 exact ⟨pre, _, by rw [gP, bO, bO, ← bO], h1, h2⟩
theorem EH.tl {E : List Fl} {n : Nat} {k : T} {r : List T} {pa : Int} {j fn i c : Nat} (h : EH E n (k :: r) pa j fn i c) (hk : k.size ≤ n) : EH E n r pa (j + 1) fn (i + k.size) (c + lW (gJ n k pa j fn i c)) := by
 obtain ⟨pre, post, rfl, rfl, rfl⟩ := h
 exact ⟨pre ++ gJ n k pa j fn pre.length (lW pre), post, by rw [gP]; simp only [bO], by rw [aK, qP n k _ _ _ _ _ hk], by rw [yF]⟩
def dH (E : List Fl) (i : Nat) : Fl := (E[i]?).getD ⟨T.zero, -1, 0, 0, 0, 0⟩
theorem AtG.eat {E : List Fl} {n : Nat} {t : T} {up : Int} {kid fn i c : Nat} (h : AtG E (n + 1) t up kid fn i c) : dH E i = ⟨t, up, kid, fn, if t.op = 4 then c + 1 else 0, i + t.size - 1⟩ := by unfold dH; rw [h.head]; rfl
def aPl (pa : Int) (fn i c j : Nat) (e : Fl) : Prop := (e.up = pa ∨ ((i : Int) ≤ e.up ∧ e.up < i + j)) ∧ (e.fn = fn ∨ c < e.fn)
theorem AW {n : Nat} (hf : ∀ (t : T) (up : Int) (kid fn i c j : Nat) (e : Fl), t.size ≤ n → (gJ n t up kid fn i c)[j]? = some e → (j = 0 ∧ e.up = up ∨ ((i : Int) ≤ e.up ∧ e.up < i + j)) ∧ (e.fn = fn ∨ c < e.fn)) : ∀ (ks : List T) (pa : Int) (j0 fn i c j : Nat) (e : Fl), (∀ k ∈ ks, k.size ≤ n) → (gP (gJ n) ks pa j0 fn i c)[j]? = some e → aPl pa fn i c j e
 | [], _, _, _, _, _, _, _, _, h => by simp [gP] at h
 | k :: r, pa, j0, fn, i, c, j, e, hk, h => by
   rw [gP] at h
   have hl := qP n k pa j0 fn i c (hk k (aF ..))
   by_cases a : j < k.size
   ·rw [aU (by omega)] at h
    obtain ⟨h1, h2⟩ := hf k pa j0 fn i c j e (hk k (aF ..)) h
    exact ⟨h1.imp (fun h => h.2) id, h2⟩
   ·rw [aX (by omega), hl] at h
    obtain ⟨h1, h2⟩ := AW hf r pa (j0 + 1) fn (i + k.size) _ (j - k.size) e (fun k h => hk k (cK h)) h
    exact ⟨h1.imp id (fun h => by omega), h2.imp id (fun h => by omega)⟩
theorem EA : ∀ (n : Nat) (t : T) (up : Int) (kid fn i c j : Nat) (e : Fl), t.size ≤ n → (gJ n t up kid fn i c)[j]? = some e → (j = 0 ∧ e.up = up ∨ ((i : Int) ≤ e.up ∧ e.up < i + j)) ∧ (e.fn = fn ∨ c < e.fn)
 | 0, t, _, _, _, _, _, _, _, h, _ => by have := bA t; omega
 | n + 1, t, up, kid, fn, i, c, j, e, hs, h => by
   rw [gJ] at h
   cases j with
   | zero =>
     have h : some _ = some e := h
     cases h
     exact ⟨.inl ⟨rfl, rfl⟩, .inl rfl⟩
   | succ j =>
     rw [bG] at h
     obtain ⟨h1, h2⟩ := AW (EA n) t.kids i 0 _ (i + 1) _ j e (fun k hk => jM hs hk) h
     refine ⟨.inr (by rcases h1 with h1 | h1 <;> omega), ?_⟩
     unfold uH lK at h2
     by_cases h4 : t.op = 4
     ·rw [if_pos h4, if_pos h4] at h2
      exact .inr (by omega)
     ·rw [if_neg h4, if_neg h4] at h2
      exact h2
theorem EH.ent {E : List Fl} {n : Nat} {ks : List T} {pa : Int} {j fn i c : Nat} (h : EH E n ks pa j fn i c) (hk : ∀ k ∈ ks, k.size ≤ n) {x : Nat} (a : i ≤ x ∧ x < i + szs ks) : ∃ e, E[x]? = some e ∧ aPl pa fn i c (x - i) e := by
 obtain ⟨pre, post, rfl, rfl, rfl⟩ := h
 have hl := vV (f := gJ n) ks pa j fn pre.length (lW pre) fun k h _ _ _ _ _ => qP n k _ _ _ _ _ (hk k h)
 have hlt : x - pre.length < (gP (gJ n) ks pa j fn pre.length (lW pre)).length := by omega
 refine ⟨_, ?_, AW (EA n) ks pa j fn pre.length (lW pre) (x - pre.length) _ hk (aA hlt)⟩
 rw [bO, aX (by omega), aU (by omega)]
 exact aA hlt
def foldI {α : Type} (g : α → Nat → α) : Nat → Nat → α → α
 | _, 0, l => l
 | i, m + 1, l => foldI g (i + 1) m (g l i)
theorem lC {α : Type} (g : α → Nat → α) : ∀ (a i b : Nat) (l : α), foldI g i (a + b) l = foldI g (i + a) b (foldI g i a l)
 | 0, i, b, l => by rw [bB]; rfl
 | a + 1, i, b, l => by
   rw [show a + 1 + b = (a + b) + 1 by omega, foldI, lC g a, foldI, show i + 1 + a = i + (a + 1) by omega]
theorem TU {α : Type} (g : α → Nat → α) : ∀ (m i : Nat) (l : α), (∀ x, i ≤ x → x < i + m → ∀ l, g l x = l) → foldI g i m l = l
 | 0, _, _, _ => rfl
 | m + 1, i, l, h => by
   rw [foldI, h i (aD _) (by omega), TU g m (i + 1) l fun x h1 h2 => h x (by omega) (by omega)]
def wM (t : T) (l : List Bd) : List Bd := if t.op = 2 ∧ t.n = 0 then eP t l else l
def gD (E : List Fl) (m top : Nat) (sh : Bool) (l : List Bd) (i : Nat) : List Bd :=
 let l1 := if (dH E i).fn = m then wM (dH E i).t l else l
 if (dH E i).up = top ∧ sh = false then bN [(dH E i).t] true l1 else l1
def BO (E : List Fl) (at' last : Nat) : Nat → Nat → Nat
 | 0, k => k
 | f + 1, k => if k ≤ last ∧ ¬((dH E k).up = at' ∧ (dH E k).kid = 1) then BO E at' last f (k + 1) else k
def PY (E : List Fl) (a : Nat) : List Bd :=
 foldI (gD E (dH E a).num (BO E a (dH E a).last ((dH E a).last - a) (a + 1)) (jG (dH E a).t 128)) (a + 1) ((dH E a).last - a) (dU 4 (bD (dM (dH E a).t 0)) [])
section
variable {E : List Fl} {m top : Nat} {sh : Bool}
theorem MN {t : T} (h : t.op = 4) : ∀ (fu : Nat) (l : List Bd), dV fu t l = l
 | 0, _ => rfl
 | fu + 1, l => by rw [dV, if_pos h]
theorem IU {t : T} (h : t.op ≠ 4) (fu : Nat) (l : List Bd) : dV (fu + 1) t l = t.kids.foldl (fun l k => dV fu k l) (wM t l) := by rw [dV, if_neg h]; rfl
theorem HU {n : Nat} {ks : List T} {pa : Int} {j fn i c : Nat} (h : EH E n ks pa j fn i c) (hk : ∀ k ∈ ks, k.size ≤ n) (f : fn ≠ m) (hc : m ≤ c) (b : sh = true ∨ pa ≠ top) (a : sh = true ∨ (top < i ∨ i + szs ks ≤ top)) (l : List Bd) : foldI (gD E m top sh) i (szs ks) l = l :=
 TU _ _ _ _ fun x h1 h2 l => by
  obtain ⟨e, he, d, hf⟩ := h.ent hk ⟨h1, h2⟩
  have he : dH E x = e := by unfold dH; rw [he]; rfl
  unfold gD
  have n1 : ¬(e.fn = m) := by rcases hf with hf | hf <;> omega
  have n2 : ¬(e.up = top ∧ sh = false) := fun h => by
   rcases b with b | b
   ·rw [b] at h; cases h.2
   rcases a with a | a
   ·rw [a] at h; cases h.2
   have := h.1
   rcases d with d | d <;> omega
  rw [he, if_neg n1, if_neg n2]
theorem AR {n : Nat} (ih : ∀ (k : T) (up : Int) (kid i c : Nat), k.size ≤ n → AtG E n k up kid m i c → m ≤ c → (sh = true ∨ (top < i ∨ i + k.size ≤ top)) → (sh = true ∨ up ≠ top) → ∀ fu, k.size ≤ fu → ∀ l, foldI (gD E m top sh) i k.size l = dV fu k l) (fu : Nat) : ∀ (ks : List T) (pa : Int) (j i c : Nat), (∀ k ∈ ks, k.size ≤ n ∧ k.size ≤ fu) → EH E n ks pa j m i c → m ≤ c → (sh = true ∨ (top < i ∨ i + szs ks ≤ top)) → (sh = true ∨ pa ≠ top) → ∀ l, foldI (gD E m top sh) i (szs ks) l = ks.foldl (fun l k => dV fu k l) l
 | [], _, _, _, _, _, _, _, _, _, _ => rfl
 | k :: r, pa, j, i, c, hk, h, hc, ht, b, l => by
   have a := hk k (aF ..)
   rw [cO] at ht ⊢
   rw [lC, ih k pa j i c a.1 h.hd hc (ht.imp id (by omega)) b fu a.2, bY]
   exact AR ih fu r pa (j + 1) (i + k.size) _ (fun k h => hk k (cK h)) (h.tl a.1) (by omega) (ht.imp id (by omega)) b _
theorem yW : ∀ (n : Nat) (k : T) (up : Int) (kid i c : Nat), k.size ≤ n → AtG E n k up kid m i c → m ≤ c → (sh = true ∨ (top < i ∨ i + k.size ≤ top)) → (sh = true ∨ up ≠ top) → ∀ fu, k.size ≤ fu → ∀ l, foldI (gD E m top sh) i k.size l = dV fu k l
 | 0, k, _, _, _, _, h, _, _, _, _, _, _, _ => by have := bA k; omega
 | n + 1, k, up, kid, i, c, hs, h, hc, ht, hu, fu, e, l => by
   have d := bA k
   have he := h.eat
   have a := h.kids
   have b : gD E m top sh l i = wM k l := by
    unfold gD
    rw [he]
    dsimp only
    rw [if_pos rfl, if_neg (fun h => hu.elim (fun h1 => by rw [h1] at h; cases h.2) fun h1 => h1 h.1)]
   rw [d, lF, foldI, b]
   by_cases h4 : k.op = 4
   ·rw [MN h4]
    unfold uH lK at a
    rw [if_pos h4, if_pos h4] at a
    rw [HU a (fun k hk => jM hs hk) (by omega) (by omega) (ht.imp id (by omega)) (ht.imp id (by omega))]
    unfold wM
    rw [if_neg (by omega)]
   ·unfold uH lK at a
    rw [if_neg h4, if_neg h4] at a
    obtain ⟨fu, rfl⟩ : ∃ x, fu = x + 1 := ⟨fu - 1, by omega⟩
    rw [IU h4]
    exact AR (yW n) fu k.kids i 0 (i + 1) c (fun y f => ⟨jM hs f, jM e f⟩) a hc (ht.imp id (by omega)) (ht.imp id (by omega)) _
theorem aHt {n : Nat} {k : T} {kid i c : Nat} (hs : k.size ≤ n) (h : AtG E n k top kid m i c) (hc : m ≤ c) (ht : top < i) (fu : Nat) (e : k.size ≤ fu) (l : List Bd) : foldI (gD E m top false) i k.size l = dV fu k (bN [k] true l) := by
 have d := bA k
 obtain ⟨n, rfl⟩ : ∃ x, n = x + 1 := ⟨n - 1, by omega⟩
 have he := h.eat
 have a := h.kids
 have b : gD E m top false l i = bN [k] true (wM k l) := by
  unfold gD
  rw [he]
  dsimp only
  rw [if_pos rfl, if_pos ⟨rfl, rfl⟩]
 rw [d, lF, foldI, b]
 by_cases h4 : k.op = 4
 ·rw [MN h4]
  unfold uH lK at a
  rw [if_pos h4, if_pos h4] at a
  rw [HU a (fun k hk => jM hs hk) (by omega) (by omega) (.inr (by omega)) (.inr (by omega))]
  unfold wM
  rw [if_neg (by omega)]
 ·unfold uH lK at a
  rw [if_neg h4, if_neg h4] at a
  obtain ⟨fu, rfl⟩ : ∃ x, fu = x + 1 := ⟨fu - 1, by omega⟩
  rw [IU h4, AR (yW n) fu k.kids i 0 (i + 1) c (fun y f => ⟨jM hs f, jM e f⟩) a hc (.inr (by omega)) (.inr (by omega))]
  congr 1
  unfold bN
  simp only [bY, List.foldl_nil]
  have hb : jG k 1 = false := by unfold jG; rw [decide_eq_false h4]; rfl
  rw [hb]
  unfold wM
  by_cases h2 : k.op = 2 <;> by_cases h0 : k.n = 0 <;> simp [h2, h0]
theorem QL {n : Nat} (fu : Nat) : ∀ (ks : List T) (j i c : Nat), (∀ k ∈ ks, k.size ≤ n ∧ k.size ≤ fu) → EH E n ks top j m i c → m ≤ c → top < i → ∀ l, foldI (gD E m top false) i (szs ks) l = ks.foldl (fun l k => dV fu k (bN [k] true l)) l
 | [], _, _, _, _, _, _, _, _ => rfl
 | k :: r, j, i, c, hk, h, hc, ht, l => by
   have a := hk k (aF ..)
   rw [cO, lC, aHt a.1 h.hd hc ht fu a.2, bY]
   exact QL fu r (j + 1) (i + k.size) _ (fun k h => hk k (cK h)) (h.tl a.1) (by omega) (by omega) _
end
theorem LL {E : List Fl} {a last : Nat} : ∀ (f k q : Nat), q ≤ k + f → k ≤ q → q ≤ last → (∀ x, k ≤ x → x < q → ¬((dH E x).up = a ∧ (dH E x).kid = 1)) → ((dH E q).up = a ∧ (dH E q).kid = 1) → BO E a last f k = q
 | 0, k, q, h1, h2, _, _, _ => by
   obtain rfl : k = q := by omega
   rfl
 | f + 1, k, q, h1, h2, h3, h4, h5 => by
   rw [BO]
   by_cases he : k = q
   ·subst he
    rw [if_neg (fun h => h.2 h5)]
   ·rw [if_pos ⟨by omega, h4 k (aD _) (by omega)⟩]
    exact LL f (k + 1) q (by omega) (by omega) h3 (fun x h6 b => h4 x (by omega) b) h5
structure aNo (t : T) : Prop where
 two : ∃ p d, t.kids = [p, d]
 par : (dM t 0).op = 5
 body : (dM t 1).op = 6 ∧ jG t 128 = false ∨ (dM t 1).op ≠ 6 ∧ jG t 128 = true
theorem aJ6 {E : List Fl} {n : Nat} {t : T} {up : Int} {kid fn i c : Nat} (h : AtG E (n + 1) t up kid fn i c) (hs : t.size ≤ n + 1) (h4 : t.op = 4) (ad : aNo t) (fu : Nat) (ae : t.size ≤ fu) : PY E i = eG fu t := by
 have he := h.eat
 have b := h.kids
 obtain ⟨⟨p, d, a⟩, -, hb⟩ := ad
 have aa := bA t
 have w : dM t 0 = p := by unfold dM; rw [a]; rfl
 have v : dM t 1 = d := by unfold dM; rw [a]; rfl
 rw [v] at hb
 have hp : p.size ≤ n := jM hs (by rw [a]; exact aF ..)
 have hd : d.size ≤ n := jM hs (by rw [a]; exact cK (aF ..))
 rw [a, cO, cO, show szs [] = 0 from rfl] at aa
 unfold uH lK at b
 rw [if_pos h4, if_pos h4, a] at b
 obtain ⟨n, rfl⟩ : ∃ x, n = x + 1 := ⟨n - 1, by have := bA p; omega⟩
 have hP := b.hd
 have u := b.tl hp
 have hD := u.hd
 have y := hD.eat
 rw [if_pos h4] at he
 unfold PY
 rw [he]
 dsimp only
 have j : i + t.size - 1 - i = p.size + d.size := by omega
 have r : BO E i (i + t.size - 1) (p.size + d.size) (i + 1) = i + 1 + p.size := by
  refine LL _ _ _ (by omega) (by omega) (by have := bA d; omega) (fun x h1 h2 h3 => ?_) (by rw [y]; exact ⟨rfl, rfl⟩)
  by_cases hx : x = i + 1
  ·subst hx
   rw [hP.eat] at h3
   have := h3.2
   dsimp only at this
   omega
  ·obtain ⟨e, hex, f, -⟩ := hP.kids.ent (fun k hk => jM hp hk) (x := x) (by have := bA p; omega)
   have hex : dH E x = e := by unfold dH; rw [hex]; rfl
   rw [hex] at h3
   rcases f with f | f <;> omega
 rw [j, r, lC, yW (top := i + 1 + p.size) (n + 1) p i 0 (i + 1) (c + 1) hp hP (aD _) (.inr (by omega)) (.inr (by omega)) fu (by omega), w]
 unfold eG
 rw [w, v]
 dsimp only
 generalize dV fu p (dU 4 (bD p) []) = l
 rcases hb with ⟨z, o⟩ | ⟨z, o⟩
 ·rw [o, if_neg (by rintro (h | h); exact h z; cases h)]
  have ab := bA d
  have g : gD E (c + 1) (i + 1 + p.size) false l (i + 1 + p.size) = l := by
   unfold gD
   rw [y]
   dsimp only
   rw [if_pos rfl, if_neg (fun h => by omega)]
   unfold wM
   rw [if_neg (by omega)]
  rw [ab, lF 1, foldI, g]
  have q := hD.kids
  unfold uH lK at q
  rw [if_neg (by omega), if_neg (by omega)] at q
  exact QL fu d.kids 0 _ _ (fun k hk => ⟨jM hd hk, by have := jM hd hk; have h9 : k.size ≤ szs d.kids := T.eF (List.mem_map.2 ⟨k, hk, rfl⟩); omega⟩) q (by omega) (by omega) l
 ·rw [o, if_pos (.inr rfl)]
  exact yW (n + 1) d i 1 _ _ hd hD (by omega) (.inl rfl) (.inl rfl) fu (by omega) l
end
section
open Go.RowKit Go.Vcg
structure RS where
 (L : List Sc) (ins ops : List Int) (us : List (Int × ByteArray × Int))
def inG (E : List Fl) (ins ops : List Int) (up : Int) (kid : Nat) : Int :=
 if 0 ≤ up then (if (ops[up.toNat]?).getD 0 < 0 ∨ ((dH E up.toNat).t.op = 21 ∧ kid = 0) then (ins[up.toNat]?).getD 0 else (ops[up.toNat]?).getD 0) else -1
def nN (l : List Bd) (kind : Int) : List Bd × Int := if l.length = 0 then (l, -1) else (l, kind)
def nmE (E : List Fl) (i : Nat) : List Bd × Int :=
 let t := (dH E i).t
 if t.op = 1 then (bN t.kids false [], 0)
 else if t.op = 4 then (PY E i, 1)
 else if t.op = 6 then nN (if 0 ≤ (dH E i).up ∧ (dH E (dH E i).up.toNat).t.op ≠ 4 then bN t.kids true [] else []) 2
 else if t.op = 21 then nN ((t.kids.drop 1).foldl (fun l k => bN k.kids true l) []) 2
 else if t.op = 10 ∨ t.op = 11 ∨ t.op = 12 then nN (bN [dM t 0] false []) 3
 else if t.op = 20 then nN (dU 5 (bD (dM t 0)) []) 4
 else nN [] 0
def tC (E : List Fl) (i : Nat) : Bool := decide ((dH E i).t.op = 34) || (decide (0 ≤ (dH E i).up) && decide ((dH E (dH E i).up.toNat).t.op = 39) && decide ((dH E (dH E i).up.toNat).t.n = 3) && decide ((dH E i).kid = 0))
def nF (t : T) : Bool := decide (t.op = 4) && (!decide (t.s = ⟨#[]⟩) && !jG t 1)
def bM (E : List Fl) (s : RS) (i : Nat) : RS :=
 let e := dH E i
 let in0 := inG E s.ins s.ops e.up e.kid
 let us := if tC E i = true then s.us ++ [(in0, e.t.s, (e.fn : Int))] else s.us
 let r := nmE E i
 if r.2 < 0 then ⟨s.L, s.ins ++ [in0], s.ops ++ [-1], us⟩
 else
  let fn : Int := if e.t.op = 4 then (e.num : Int) else (e.fn : Int)
  let L1 := if nF e.t = true then s.L ++ [⟨in0, fn, 5, e.t.at', [⟨e.t.s, 7, false, 0⟩]⟩] else s.L
  let in1 : Int := if nF e.t = true then (s.L.length : Int) else in0
  ⟨L1 ++ [⟨in1, fn, r.2, e.t.at', r.1⟩], s.ins ++ [in0], s.ops ++ [(L1.length : Int)], us⟩
def FV (u : Ux) : Int × ByteArray × Int := (u.u.scope, u.u.name, u.fn)
structure Rel (i c : Nat) (s : FS) (st : RS) : Prop where
 L : st.L = s.scopes
 us : st.us = s.uses.map FV
 li : st.ins.length = i
 lo : st.ops.length = i
 fc : s.funcs = c
def Ext (st st' : RS) : Prop := ∃ a b, st'.ins = st.ins ++ a ∧ st'.ops = st.ops ++ b
theorem Ext.refl (st : RS) : Ext st st := ⟨[], [], by simp, by simp⟩
theorem Ext.trans {a b c : RS} (h : Ext a b) (d : Ext b c) : Ext a c := by
 obtain ⟨x, y, h1, h2⟩ := h
 obtain ⟨x', y', h3, h4⟩ := d
 exact ⟨x ++ x', y ++ y', by rw [h3, h1, bO], by rw [h4, h2, bO]⟩
theorem Ext.inG {st st' : RS} {i pa : Nat} (h : Ext st st') (E : List Fl) (hl : st.ins.length = i ∧ st.ops.length = i) (c : pa < i) (jj : Nat) : inG E st'.ins st'.ops (pa : Int) jj = Go.Proofs.YtlllalmkkaolfaaGreatDoor.inG E st.ins st.ops (pa : Int) jj := by
 obtain ⟨a, b, h1, h2⟩ := h
 unfold Go.Proofs.YtlllalmkkaolfaaGreatDoor.inG
 rw [h1, h2, cL, aU (by omega), aU (by omega)]
def Eqv (s s' : FS) : Prop := s'.scopes = s.scopes ∧ s'.funcs = s.funcs ∧ s'.uses.map FV = s.uses.map FV
theorem Eqv.refl (s : FS) : Eqv s s := ⟨rfl, rfl, rfl⟩
theorem Eqv.symm {s s' : FS} (h : Eqv s s') : Eqv s' s := ⟨h.1.symm, h.2.1.symm, h.2.2.symm⟩
theorem Eqv.trans {a b c : FS} (h : Eqv a b) (d : Eqv b c) : Eqv a c := ⟨d.1.trans h.1, d.2.1.trans h.2.1, d.2.2.trans h.2.2⟩
theorem Rel.eqv {i c : Nat} {s s' : FS} {st : RS} (h : Rel i c s st) (he : Eqv s s') : Rel i c s' st := ⟨by rw [he.1]; exact h.L, by rw [he.2.2]; exact h.us, h.li, h.lo, by rw [he.2.1]; exact h.fc⟩
structure Vn (t : T) : Prop where
 fn : t.op = 4 → aNo t
 sht : t.op = 39 → t.n = 3 → ∃ k, t.kids = [k] ∧ k.op = 31 ∧ k.kids = []
 one : t.op = 3 ∨ t.op = 21 ∨ t.op = 10 ∨ t.op = 11 ∨ t.op = 12 ∨ t.op = 20 → 1 ≤ t.kids.length
 nam : t.op = 34 → t.kids = []
 pr : t.op ≠ 1
section
variable {E : List Fl} {n fu : Nat}
theorem MP {t : T} {up : Int} {kid fn i c : Nat} {w : Wh} {s : FS} {st : RS} {kind : Int} {l : List Bd} (k : AtG E (n + 1) t up kid fn i c) (a : Rel i c s st) (j : w.fn = fn) (f : w.scope = inG E st.ins st.ops up kid) (h4 : t.op ≠ 4) (hk : 0 ≤ kind) (g : nmE E i = nN l kind) (hu : tC E i = false) :
 Rel (i + 1) c (kA kind t.at' w l s) (bM E st i) ∧ Ext st (bM E st i) ∧ ∀ jj, inG E (bM E st i).ins (bM E st i).ops (i : Int) jj = if t.op = 21 ∧ jj = 0 then w.scope else (fU w l s).scope := by
 have he := k.eat
 have d : nF t = false := by unfold nF; rw [decide_eq_false h4]; rfl
 have key : bM E st i = if l.length = 0 then ⟨st.L, st.ins ++ [w.scope], st.ops ++ [-1], st.us⟩ else ⟨st.L ++ [⟨w.scope, fn, kind, t.at', l⟩], st.ins ++ [w.scope], st.ops ++ [(st.L.length : Int)], st.us⟩ := by
  unfold bM
  rw [he]
  dsimp only
  rw [hu, g, d, ← f, if_neg h4]
  unfold nN
  by_cases hl : l.length = 0
  ·rw [if_pos hl, if_pos hl, if_pos (show (-1 : Int) < 0 by decide)]
   rfl
  ·rw [if_neg hl, if_neg hl, if_neg (by dsimp only; omega)]
   rfl
 have e : ∀ (o : Int) (jj : Nat), inG E (st.ins ++ [w.scope]) (st.ops ++ [o]) (i : Int) jj = if o < 0 ∨ (t.op = 21 ∧ jj = 0) then w.scope else o := fun o jj => by
  unfold inG
  rw [if_pos (by omega), cL, aX (by rw [a.lo]; exact aD _), aX (by rw [a.li]; exact aD _), a.li, a.lo, dN, he]
  rfl
 rw [key]
 unfold kA fU
 by_cases hl : l.length = 0
 ·rw [if_pos hl, if_pos hl, if_pos hl]
  refine ⟨⟨a.L, a.us, by simp [a.li], by simp [a.lo], a.fc⟩, ⟨_, _, rfl, rfl⟩, fun jj => ?_⟩
  rw [e, if_pos (.inl (by decide))]
  split <;> rfl
 ·rw [if_neg hl, if_neg hl, if_neg hl]
  refine ⟨⟨by unfold lO; dsimp only; rw [a.L, j], a.us, by simp [a.li], by simp [a.lo], a.fc⟩, ⟨_, _, rfl, rfl⟩, fun jj => ?_⟩
  rw [e]
  by_cases b : t.op = 21 ∧ jj = 0
  ·rw [if_pos (.inr b), if_pos b]
  ·rw [if_neg (by rintro (h | h); exact absurd h (by omega); exact b h), if_neg b, a.L]
   rfl
def rY (F : FS → T → Nat → FS) : List T → Nat → FS → FS
 | [], _, s => s
 | k :: r, j, s => rY F r (j + 1) (F s k j)
theorem zA (F : FS → T × Nat → FS) : ∀ (ks : List T) (j : Nat) (s : FS), (ks.zipIdx j).foldl F s = rY (fun s k j => F s (k, j)) ks j s
 | [], _, _ => rfl
 | k :: r, j, s => by rw [kX, bY, zA F r]; rfl
theorem qO (N : T → Wh → FS → FS) (w : Wh) : ∀ (ks : List T) (j : Nat) (s : FS), rY (fun s k _ => N k w s) ks j s = uJ N ks w s
 | [], _, _ => rfl
 | k :: r, j, s => by unfold uJ; rw [bY]; exact qO N w r (j + 1) _
theorem FC (F : FS → T → Nat → FS) : ∀ (ks : List T) (j : Nat) (s : FS), rY F ks j s = rY (fun s k j => F s k (j - 1)) ks (j + 1) s
 | [], _, _ => rfl
 | k :: r, j, s => by rw [rY, rY, Nat.add_sub_cancel]; exact FC F r (j + 1) _
def Good (E : List Fl) (n fu f : Nat) (k : T) : Prop := ∀ (up : Int) (kid fn i c : Nat) (w : Wh) (s : FS) (st : RS), AtG E n k up kid fn i c → Rel i c s st → w.fn = fn → w.scope = inG E st.ins st.ops up kid →
 ¬(0 ≤ up ∧ (dH E up.toNat).t.op = 39 ∧ (dH E up.toNat).t.n = 3 ∧ kid = 0) → (k.op = 6 → 0 ≤ up ∧ (dH E up.toNat).t.op ≠ 4) →
 Rel (i + k.size) (c + lW (gJ n k up kid fn i c)) (nbS fu f k w s) (foldI (bM E) i k.size st) ∧ Ext st (foldI (bM E) i k.size st)
theorem IT (F : FS → T → Nat → FS) (pa : Nat) (fn : Nat) (wh : Nat → Int) (ih : ∀ k, k.size ≤ n → eK Vn k → ∀ f, k.size ≤ f → Good E n fu f k) : ∀ (ks : List T) (j i c : Nat) (s : FS) (st : RS), (∀ k ∈ ks, k.size ≤ n ∧ eK Vn k) → EH E n ks (pa : Int) j fn i c → Rel i c s st → pa < i →
 (∀ jj, j ≤ jj → inG E st.ins st.ops (pa : Int) jj = wh jj) →
 (∀ (k : T) (jj : Nat) (s : FS), k ∈ ks → j ≤ jj → ∃ f w s1, k.size ≤ f ∧ Eqv s s1 ∧ Eqv (nbS fu f k w s1) (F s k jj) ∧ w.fn = fn ∧ w.scope = wh jj) →
 (∀ jj, j ≤ jj → ¬((dH E pa).t.op = 39 ∧ (dH E pa).t.n = 3 ∧ jj = 0)) → (∀ k ∈ ks, k.op = 6 → (dH E pa).t.op ≠ 4) →
 Rel (i + szs ks) (c + lW (gP (gJ n) ks (pa : Int) j fn i c)) (rY F ks j s) (foldI (bM E) i (szs ks) st) ∧ Ext st (foldI (bM E) i (szs ks) st)
 | [], j, i, c, s, st, _, _, b, _, _, _, _, _ => ⟨b, Ext.refl st⟩
 | k :: r, j, i, c, s, st, hk, q, b, u, hw, p, d, h6 => by
   obtain ⟨a, l⟩ := hk k (aF ..)
   obtain ⟨f, w, s1, hf, e1, e2, g, e⟩ := p k j s (aF ..) (aD _)
   obtain ⟨g1, g2⟩ := ih k a l f hf (pa : Int) j fn i c w s1 st q.hd (b.eqv e1) g (by rw [e, hw j (aD _)]) (fun h => d j (aD _) (by rw [cL] at h; exact h.2)) (fun h => ⟨by omega, by rw [cL]; exact h6 k (aF ..) h⟩)
   rw [cO, lC, rY, gP, yF, ← kS, ← kS]
   obtain ⟨g3, g4⟩ := IT F pa fn wh ih r (j + 1) (i + k.size) _ _ _ (fun k h => hk k (cK h)) (q.tl a) (g1.eqv e2) (by omega) (fun jj o => by rw [g2.inG E ⟨b.li, b.lo⟩ u]; exact hw jj (by omega)) (fun k jj s h o => p k jj s (cK h) (by omega)) (fun jj o => d jj (by omega)) (fun k h => h6 k (cK h))
   exact ⟨g3, g2.trans g4⟩
theorem IL {i : Nat} {t : T} (h : (dH E i).t = t) (hn : t.op ≠ 1 ∧ t.op ≠ 4 ∧ t.op ≠ 6 ∧ t.op ≠ 21 ∧ t.op ≠ 10 ∧ t.op ≠ 11 ∧ t.op ≠ 12 ∧ t.op ≠ 20) : nmE E i = nN [] 0 := by
 unfold nmE
 rw [h]
 dsimp only
 rw [if_neg (by omega), if_neg (by omega), if_neg (by omega), if_neg (by omega), if_neg (by omega), if_neg (by omega)]
theorem NW {i : Nat} {e : Fl} (h : dH E i = e) (b : e.t.op ≠ 34) (c : ¬(0 ≤ e.up ∧ (dH E e.up.toNat).t.op = 39 ∧ (dH E e.up.toNat).t.n = 3 ∧ e.kid = 0)) : tC E i = false := by
 unfold tC
 rw [h, decide_eq_false b, mA]
 cases a : (decide (0 ≤ e.up) && decide ((dH E e.up.toNat).t.op = 39) && decide ((dH E e.up.toNat).t.n = 3) && decide (e.kid = 0)) with
 | false => rfl
 | true =>
   rw [aS, aS, aS] at a
   exact absurd ⟨of_decide_eq_true a.1.1.1, of_decide_eq_true a.1.1.2, of_decide_eq_true a.1.2, of_decide_eq_true a.2⟩ c
theorem JX (n : Nat) (t : T) (up : Int) (kid fn i c : Nat) : c + lW (gJ (n + 1) t up kid fn i c) = lK t c + lW (gP (gJ n) t.kids i 0 (uH t fn c) (i + 1) (lK t c)) := by
 rw [gJ]
 unfold lW lK
 rw [mS]
 by_cases h4 : t.op = 4 <;> simp [h4]
 omega
theorem pE {t : T} {up : Int} {kid fn i c : Nat} {w : Wh} {s : FS} {st : RS} {kind : Int} {l : List Bd} (ih : ∀ k, k.size ≤ n → eK Vn k → ∀ f, k.size ≤ f → Good E n fu f k) (hs : t.size ≤ n + 1) (q : eK Vn t) (o : AtG E (n + 1) t up kid fn i c) (r : Rel i c s st) (j : w.fn = fn) (e : w.scope = inG E st.ins st.ops up kid) (h4 : t.op ≠ 4) (p : ¬(t.op = 39 ∧ t.n = 3)) (hk : 0 ≤ kind) (g : nmE E i = nN l kind) (hu : tC E i = false)
 (F : FS → T → Nat → FS) (wh : Nat → Int) (b : ∀ jj, wh jj = if t.op = 21 ∧ jj = 0 then w.scope else (fU w l s).scope) (u : ∀ (k : T) (jj : Nat) (s : FS), k ∈ t.kids → ∃ f w s1, k.size ≤ f ∧ Eqv s s1 ∧ Eqv (nbS fu f k w s1) (F s k jj) ∧ w.fn = fn ∧ w.scope = wh jj) :
 Rel (i + t.size) (c + lW (gJ (n + 1) t up kid fn i c)) (rY F t.kids 0 (kA kind t.at' w l s)) (foldI (bM E) i t.size st) ∧ Ext st (foldI (bM E) i t.size st) := by
 obtain ⟨h1, h2, h3⟩ := MP o r j e h4 hk g hu
 have d := bA t
 have he := o.eat
 have a := o.kids
 rw [JX, d, ← kS, lC]
 unfold uH lK at a ⊢
 rw [if_neg h4, if_neg h4] at a ⊢
 obtain ⟨g1, g2⟩ := IT (E := E) (n := n) (fu := fu) F i fn wh ih t.kids 0 (i + 1) c _ _ (fun k hk => ⟨jM hs hk, q.kid hk⟩) a h1 (by omega) (fun jj _ => by rw [h3, b]) (fun k jj s hk _ => u k jj s hk) (fun jj _ h => by rw [he] at h; exact p ⟨h.1, h.2.1⟩) (fun k _ _ => by rw [he]; exact h4)
 exact ⟨g1, h2.trans g2⟩
end
end
end Go.Proofs.YtlllalmkkaolfaaGreatDoor
