/- Package scope: hops, walked. -/
import Derived.Test.YtlllalmkkaolfaaGreatDoorUaq
import Derived.Lay
import Derived.LaidOnce
import Derived.SevenTiedAt
import Derived.Test.YtlllalmkkaolfaaGreatDoorTie
import Derived.Test.YtlllalmkkaolfaaGreatDoorCards
import Derived.Lib.LaidU8
import Derived.Lib.LaidTab
import Derived.Shelf.Vars
set_option maxRecDepth 20000
set_option maxHeartbeats 2000000
namespace Go.Proofs.YtlllalmkkaolfaaGreatDoor
section
open Go.RowKit Go.Vcg Go.MapKept
theorem NI(l:List Sc)(b:Int):∀(f:Nat) (a:Int),mH l f a b≤f
 |0,_=>aC _
 | f+1,a=>by
   unfold mH;split
   ·omega
   ·cases l[a.toNat]? with
    |none=>dsimp only;omega
    | some c=>
      have:=NI l b f c.up;dsimp only;split<;>omega
theorem YR{l:List Sc}{b:Nat}{a:Int}{c:Sc}(h0:0≤a)(hc:l[a.toNat]? =some c)(hlt:c.up<a)(hne:a≠b)(h:kN l b c.up):mH l (a.toNat+1) a b=(if 0<iN c.names then 1 else 0)+mH l (c.up.toNat+1) c.up b:=by
 have h1:=h.uS;rw[mH,if_neg hne,hc];dsimp only;rw[aBz h a.toNat (c.up.toNat+1) (by omega) (by omega)]
attribute [local irreducible] mH iN
attribute [local irreducible] jY dT eM bF dR dM anI jK iB G GC GQ GA eV Calls IntKind.wrap Int.decLt Int.decLe
theorem aAu(w:World)(μ:Mem)(hμ:MOk μ w)(xb:Nat)(A:Option Addr)(c:Nat)(ps:List (Sc×Value))(v1 v2 v3 v4 v5:Value)(hm:gF μ ⟨xb,0,none⟩ [.slice A ps.length c,v1,v2,v3,v4,v5])(r:ScR μ A ps)(a:Int)(bb:Nat)(u:kN (scs ps) bb a)(ab:a<9000):
 bC 22 #[.pointer (some ⟨xb,0,none⟩),.int .i64 a,.int .i64 (bb:Int)] w (.int .i64 ((mH (scs ps) (a.toNat+1) a bb:Nat):Int)):=by
 have o:qD μ ⟨xb,0+0,none⟩ (.slice A ps.length c):=by have h:=hm 0 _ rfl;rw[OX]at h;exact h
 obtain⟨hS,hl,p⟩:=r;generalize hT:mH (scs ps) (a.toNat+1) a bb=tot;have x:=NI (scs ps) bb (a.toNat+1) a;rw[hT]at x;refine aF Tryz.func22 rfl Tryz.ntmps22 (by simp) hμ ?_;try repeat' (refine KZ ?_)
 refine cD (ι:=Int×Nat) (fun j=>kN (scs ps) bb j.1∧j.2+mH (scs ps) (j.1.toNat+1) j.1 bb=tot) (fun j=>j.1.toNat) (fun _=>μ) (fun j=>[(0,.pointer (some ⟨xb,0,none⟩)),(1,.int .i64 j.1),(2,.int .i64 (bb:Int)),(7,.int .i64 (j.2:Int))]) (fun _=>[]) (a,0) ⟨u,by dsimp only;omega⟩ (fun a w hs=>J5 hs) ?_;rintro⟨a',n⟩ ⟨f,e⟩;dsimp only at f e⊢;by_cases q:a' =(bb:Int)
 ·subst q;have h0:mH (scs ps) ((bb:Int).toNat+1) (bb:Int) (bb:Int)=0:=by rw[mH,if_pos rfl]
  rw[h0,bZ]at e;subst e;try repeat' (refine KZ ?_)
  all_goals exact aQ rfl rfl rfl
 ·cases f with
  |here=>exact absurd rfl q
  | @up _ c9 h0 hc hlt hne h=>
    have hup:=YR h0 hc hlt hne h;rw[hup]at e;have h1:=h.uS;obtain⟨k,rfl⟩:∃k:Nat,a' =k:=⟨a'.toNat,by omega⟩;rw[aG]at hc;have t:k<ps.length:=by have:=(List.getElem?_eq_some_iff.1 hc).1;rw[kV]at this;exact this
    obtain⟨ad,y,rfl,z,g⟩:=hS.get t;obtain⟨cy,v⟩:=y;obtain rfl:cy=c9:=by have h9:=mE z;rw[hc]at h9;cases h9;rfl
    have i:=p _ (aB z);dsimp only at i g;have l:=fun w μc hw (hle:MLe μ μc)=>XF w μc hw cy v (i.mono hle);obtain⟨A2,c2,rfl,ae,aa⟩:=i;by_cases hh:0<iN cy.names
    ·rw[if_pos hh]at e;try repeat' (first|refine KO ?_|refine K2 33 l ?_|(refine KV (b:=by first|exact U1 k|((with_reducible apply lF);exact rfl;exact rfl;exact o)|exact U4 g) (c:=?_))|refine KZ ?_)
     all_goals exact J2 (cy.up,n+1) ⟨h,by dsimp only;omega⟩ (by dsimp only;omega)
    ·rw[if_neg hh]at e;try repeat' (first|refine KO ?_|refine K2 33 l ?_|(refine KV (b:=by first|exact U1 k|((with_reducible apply lF);exact rfl;exact rfl;exact o)|exact U4 g) (c:=?_))|refine KZ ?_)
     all_goals exact J2 (cy.up,n) ⟨h,by dsimp only;omega⟩ (by dsimp only;omega)
end
section
open Go.RowKit Go.Vcg Go.MapKept
def UsV(μ:Mem)(l:List Us)(v:Value):Prop:=∃A c,v=.slice A l.length c∧Sl HZ 8 μ A l.length l
def pK(f:Nat)(t:T)(μ:Mem)(v:Value):Prop:=(4096<fQ (gS f t).scopes∧v=.tuple #[.slice none 0 0,.int .i64 9])∨(¬4096<fQ (gS f t).scopes∧∃r,v=.tuple #[r,.int .i64 0]∧UsV μ ((gS f t).uses.map (tO (qZ (gS f t)))) r)
theorem aSi(f:Nat)(t:T):(wK f t).scopes=qZ (gS f t)∧(wK f t).uses=(gS f t).uses∧(wK f t).funcs=(gS f t).funcs:=by unfold wK;exact⟨rfl,rfl,rfl⟩
theorem LH(f:Nat)(t:T)(e:t.size≤2000)(hf:t.size≤f)(hq:dJ qS t):(gS f t).uses.length≤9000:=by
 have g:=aS t;have a:=jO t.kids false [];rw[bM,bG]at a;have b:=vY (kind:=0) (at' :=t.at') (w:=⟨-1,0,false⟩) (l:=bF t.kids false []) s00 (by omega);have c:=sW (N:=nbS f f) t.kids (fun k hk=>NN f f k (hq.kid hk) (by
  have:k.size≤szs t.kids:=T.eL (List.mem_map.2 ⟨k,hk,rfl⟩);omega)) ⟨0,0,false⟩ (mL t)
 have h1:=b.wt;have h2:wtS s00=0:=rfl;have h3:wtS (gS f t)≤wtS (mL t)+3*szs t.kids:=c.wt;have h4:wtS (mL t)≤1:=by rw[HB];omega
 unfold wtS at h3 h4;omega
attribute [local irreducible] wK gS rtB mH iN tO qZ
attribute [local irreducible] jY dT eM bF dR dM anI jK iB G GC GQ GA eV Calls IntKind.wrap Int.decLt Int.decLe
theorem LK(f:Nat)(t:T)(u:Value)(w:World)(μ:Mem)(hμ:MOk μ w)(hk:KR μ t.kids u)(x:t.size≤2000)(hf:t.size≤f)(z:Sh t)(hT:sO μ)(al:t.op=1)(ab:rtB t 1 false=true):
 Calls Tryz.prog 8 #[.agg (cO t u).toArray] w fun e w' =>∃v μ',e=.returned v∧vI w w' μ μ' ∧pK f t μ' v:=by
 have ou:=hk.one;obtain⟨bj,bi⟩:=EE f t x hf (xO t 1 false (iL ab) z);obtain⟨bg,ar,-⟩:=aSi f t;refine aF Tryz.func8 rfl Tryz.ntmps8 (by simp) hμ ?_;try repeat' (first|((with_reducible show GC _ _ (Code.seq (Code.region 4 _ _) _) _ _ _ _);(apply dX))|refine KO ?_|(refine CF 21 ?_;(with_reducible apply aKc f t);(iterate 3 exact rfl);exact EN;exact hk;exact x;exact hf;exact z;exact hT;exact al;exact ab;rintro μ1 aq ae;rotate_left;rintro μ1 xb cb hb db q aq ae hR;unfold FB1)|refine KZ ?_|refine NB fun b=>?_)
 ·refine gcs (IZ fun μ2 bs hL=>?_);have ak:=aKs (L:=_) hL;obtain⟨A,c,e,hS⟩:=aAx hR ak bj bi;have az:=ak _ (aE ..);have o:=LS az (vs:=[q.sv,q.uv,.int .i64 ((wK f t).funcs:Int),.map (some cb),.map (some hb),.map (some db)]) (fun j v hj=>sT hj);have a1:=ak _ (bP (bP (aE ..)));obtain⟨Au,cu,eu,hU⟩:=tM (enc:=xJ) (xs:=(wK f t).uses) a1 rfl (by simp) rfl;rw[e,eu]at o;rw[ar]at hU o;refine oN 33 8 ?_;have a8:SI (gS f t):=aA0 f t;have aa:=zC (gS f t);have bt:(gS f t).uses.length≤9000:=(LH f t x hf (xO t 1 false (iL ab) z));have l:scs q.cs=qZ (gS f t):=by rw[hR.sc,bg]
  have ba:qD μ2 ⟨xb,0+1,none⟩ (.slice Au (gS f t).uses.length cu):=by have h:=o 1 _ rfl;rw[OX]at h;exact h
  generalize (wK f t).funcs=fcs at o;generalize bc:qZ (gS f t)=lE at l aa;rw[ar]at eu;try repeat' (first|refine KO ?_|(refine KV (b:=by((with_reducible apply lF);exact rfl;exact rfl;exact ba)) (c:=?_)))
  refine cD (ι:=Nat×Value) (fun j=>j.1≤(gS f t).uses.length) (fun j=>(gS f t).uses.length-j.1) (fun _=>μ2) (fun j=>[(23,.int .i64 (j.1:Int)),(22,.int .i64 ((gS f t).uses.length:Int)),(21,.slice Au (gS f t).uses.length cu),(6,j.2),(4,.pointer (some ⟨xb,0,none⟩))]) (fun j=>[.inr ⟨j.2,33,8,(((gS f t).uses.take j.1).map (tO lE)).length,(((gS f t).uses.take j.1).map (tO lE)).flatMap HZ⟩]) (0,.slice none 0 0) (aN _) (fun a w hs=>hs.sel PU (fH _)) ?_;rintro⟨i,v⟩ hi;dsimp only at hi⊢;by_cases hlt:i< (gS f t).uses.length
  ·obtain⟨adu,y,rfl,hy,af⟩:=hU.get hlt;have ad:=a8.uses y (aB hy);have g:((gS f t).uses.take (i+1)).map (tO lE)=((gS f t).uses.take i).map (tO lE)++[tO lE y]:=by rw[cG,hy,bJ];rfl
   have ap:(((gS f t).uses.take i).map (tO lE)).length=i:=by rw[aO,cM];omega
   obtain⟨u9,ts,tb,found,fn⟩:=y;cases found with
   | false=>
     have ho:tO lE ⟨u9,ts,tb,false,fn⟩=u9:=by unfold tO;rw[if_neg (by simp)]
     rw[ho]at g;generalize ((gS f t).uses.take i).map (tO lE)=acc at g ap⊢;try repeat' (first|refine KO ?_|(((with_reducible apply qA);(iterate 3 exact rfl);(repeat first|with_reducible exact fO|with_reducible apply gD);(iterate 6 exact rfl);(((with_reducible apply kB);exact rfl;(repeat with_reducible exact fW);exact rfl));(exact rfl);((exact gI (by(repeat first|with_reducible exact fZ|((with_reducible apply eW);(exact rfl))))));omega;omega;intro v))|(refine KV (b:=by first|exact U1 i|exact U4 af) (c:=?_))|refine KZ ?_|refine NB fun b=>?_)
     all_goals refine gO (L' :=[_]) (tB (.refl _) (.nil _)) ?_
     all_goals refine gJ (n' :=(acc++[u9]).length) (xs' :=(acc++[u9]).flatMap HZ) 0 rfl (by simp) (by simp) ?_
     all_goals exact cY (i+1,_) (by dsimp only;omega) (by dsimp only;omega) rfl PU (by dsimp only;rw[g];exact fH _)
   | true=>
     obtain⟨au,-⟩:=ad.yes rfl;dsimp only at au;have p:=xE aa u9.scope u9.name;rw[au]at p;unfold iD at p;have ax:=tK p;obtain⟨c9,d9,r,aj,-,-⟩:=mD p;have bf:=ad.hi;have bb:=ad.lo;dsimp only at bf bb;have bh:sN lE ts tb=d9:=by unfold sN;rw[r];simp[aj]
     rw[←l]at r ax;have a6:ts<q.cs.length:=by rw[←kV];exact(List.getElem?_eq_some_iff.1 r).1
     have bp:=hS;obtain⟨bk,bm,bn⟩:=hS;obtain⟨ads,cy,rfl,aw,ah⟩:=bk.get a6;obtain⟨cc,v9⟩:=cy;obtain rfl:cc=c9:=by have h9:=mE aw;rw[r]at h9;cases h9;rfl
     obtain⟨A4,c4,e4,ay,bu,-⟩:=bn _ (aB aw);dsimp only at e4 ay ah;subst e4;have a7:tb<cc.names.length:=(List.getElem?_eq_some_iff.1 aj).1;obtain⟨adb,dd,rfl,av,ag⟩:=ay.get a7;rw[aj]at av;cases av;have ao:qD μ2 ⟨xb,0+0,none⟩ (.slice (some ads) q.cs.length c):=by have h:=o 0 _ rfl;rw[OX]at h;exact h
     have ai:=fun w μc hw (hle:MLe μ2 μc)=>aAu w μc hw xb (some ads) c q.cs _ _ _ _ _ (fun j y hj=>(o j y hj).mono hle) (bp.mono hle) u9.scope ts ax (by have:=aa.1;rw[←kV,l]at bm;omega);rw[l]at ai;have ho:tO lE ⟨u9,ts,tb,true,fn⟩=if d9.held=true then{ u9 with wh:=1,slot:=d9.slot,hops:=(mH lE (u9.scope.toNat+1) u9.scope ts:Nat) }else{ u9 with wh:=0,slot:=d9.slot }:=by unfold tO;rw[if_pos rfl];dsimp only;rw[bh]
     rw[ho]at g;generalize ((gS f t).uses.take i).map (tO lE)=acc at g ap⊢;generalize mH lE (u9.scope.toNat+1) u9.scope ts=an at ai g;obtain⟨nm,kd,hd,sl⟩:=d9;dsimp only at g ag;cases hd with
     | false=>
       rw[if_neg (by simp)]at g;try repeat' (first|refine KO ?_|(refine KV (b:=by first|exact U1 i|exact U4 af) (c:=?_))|refine KZ ?_|refine NB fun b=>?_)
       refine aZ 17 _ (by kernel_rfl) rfl (aD aT) ?_;all_goals(refine D1 0 ?_;refine D1 1 ?_;refine D1 2 ?_;refine D2 3 rfl (by((with_reducible apply lF);exact rfl;exact rfl;exact ao)) ?_;refine D1 4 ?_;refine D1 5 ?_;refine DD 6 ?_;refine D2 7 rfl (by exact U1 ts) ?_;refine DD 8 ?_;refine D2 9 rfl (by exact U4 ah) ?_;refine D1 10 ?_;refine D1 11 ?_;refine DD 12 ?_;refine D2 13 rfl (by exact U1 tb) ?_;refine D2 14 rfl (by exact U4 ag) ?_;refine D3 15 ?_;refine D5 ?_;refine NB fun b=>?_;refine D9 ?_;refine D3 16 ?_;refine D5 ?_;refine Y0 ?_;refine D9 ?_;refine D8 ?_)
       all_goals try repeat' (refine KZ ?_)
       all_goals
        refine aZ 8 _ (by kernel_rfl) rfl (aD (cP aT)) ?_;all_goals(refine DD 0 ?_;refine DD 1 ?_;refine DD 2 ?_;refine DD 3 ?_;refine D3 4 ?_;refine D5 ?_;refine Y0 ?_;refine D9 ?_;refine DD 5 ?_;refine DD 6 ?_;refine D3 7 ?_;refine D5 ?_;refine Y0 ?_;refine D9 ?_;refine D8 ?_)
       all_goals try repeat' (first|refine KZ ?_|(((with_reducible apply qA);(iterate 3 exact rfl);(repeat first|with_reducible exact fO|with_reducible apply gD);(iterate 6 exact rfl);(((with_reducible apply kB);exact rfl;(repeat with_reducible exact fW);exact rfl));exact rfl;exact gI (by(repeat first|with_reducible exact fZ|((with_reducible apply eW);exact rfl)));omega;omega;intro v))|refine NB fun b=>?_)
       all_goals refine gO (L' :=[_]) (CM (.refl _) (.nil _)) ?_
       all_goals refine gJ (n' :=(acc++[{ u9 with wh:=0,slot:=sl }]).length) (xs' :=(acc++[{ u9 with wh:=0,slot:=sl }]).flatMap HZ) 0 rfl (by simp) (by simp) ?_
       all_goals exact cY (i+1,_) (by dsimp only;omega) (by dsimp only;omega) rfl PU (by dsimp only;rw[g];exact fH _)
     | true=>
       rw[if_pos rfl]at g;try repeat' (first|refine KO ?_|(refine KV (b:=by first|exact U1 i|exact U4 af) (c:=?_))|refine KZ ?_|refine NB fun b=>?_)
       refine aZ 17 _ (by kernel_rfl) rfl (aD aT) ?_;all_goals(refine D1 0 ?_;refine D1 1 ?_;refine D1 2 ?_;refine D2 3 rfl (by((with_reducible apply lF);exact rfl;exact rfl;exact ao)) ?_;refine D1 4 ?_;refine D1 5 ?_;refine DD 6 ?_;refine D2 7 rfl (by exact U1 ts) ?_;refine DD 8 ?_;refine D2 9 rfl (by exact U4 ah) ?_;refine D1 10 ?_;refine D1 11 ?_;refine DD 12 ?_;refine D2 13 rfl (by exact U1 tb) ?_;refine D2 14 rfl (by exact U4 ag) ?_;refine D3 15 ?_;refine D5 ?_;refine NB fun b=>?_;refine D9 ?_;refine D3 16 ?_;refine D5 ?_;refine Y0 ?_;refine D9 ?_;refine D8 ?_)
       all_goals try repeat' (refine KZ ?_)
       all_goals
        refine aZ 8 _ (by kernel_rfl) rfl (aD (cP aT)) ?_;all_goals(refine DD 0 ?_;refine DD 1 ?_;refine DD 2 ?_;refine DD 3 ?_;refine D3 4 ?_;refine D5 ?_;refine Y0 ?_;refine D9 ?_;refine DD 5 ?_;refine DD 6 ?_;refine D3 7 ?_;refine D5 ?_;refine Y0 ?_;refine D9 ?_;refine D8 ?_)
       all_goals try repeat' (first|refine KO ?_|refine K2 22 ai ?_|refine KZ ?_|(((with_reducible apply qA);(iterate 3 exact rfl);(repeat first|with_reducible exact fO|with_reducible apply gD);(iterate 6 exact rfl);(((with_reducible apply kB);exact rfl;(repeat with_reducible exact fW);exact rfl));exact rfl;exact gI (by(repeat first|with_reducible exact fZ|((with_reducible apply eW);exact rfl)));omega;omega;intro v))|refine NB fun b=>?_)
       all_goals refine gO (L' :=[_]) (CM (.refl _) (.nil _)) ?_
       all_goals refine gJ (n' :=(acc++[{ u9 with wh:=1,slot:=sl,hops:=(an:Int) }]).length) (xs' :=(acc++[{ u9 with wh:=1,slot:=sl,hops:=(an:Int) }]).flatMap HZ) 0 rfl (by simp) (by simp) ?_
       all_goals exact cY (i+1,_) (by dsimp only;omega) (by dsimp only;omega) rfl PU (by dsimp only;rw[g];exact fH _)
  ·have bd:i=(gS f t).uses.length:=by omega
   subst bd;rw[aK (aC _)];try repeat' (refine KZ ?_)
   refine HJ rfl (cX rfl) (cX rfl) (fun μ' br bq=>.inr ⟨ae,_,rfl,?_⟩);rw[bc];obtain⟨A9,c9,e9,bo⟩:=tM (enc:=HZ) (xs:=(gS f t).uses.map (tO lE)) (bq _ (aE ..)) rfl (by simp) rfl;exact⟨A9,c9,e9,bo⟩
 ·exact HJ rfl (cX rfl) (cX rfl) (fun μ' _ _=>.inl ⟨ae,rfl⟩)
end
section
open Go.RowKit Go.Vcg Go.MapKept
attribute [local irreducible] mH iN
attribute [local irreducible] jY dT eM bF dR dM anI jK iB G GC GQ GA eV Calls IntKind.wrap Int.decLt Int.decLe
end
section
open Go.RowKit Go.Vcg Go.MapKept
noncomputable def aBm (t:T):Bool:=decide (t.op=1)&&rtB t 1 false&&decide ((EH 1600 t).2=0)
attribute [local irreducible] rtB EH
attribute [local irreducible] jY dT eM bF dR dM anI jK iB G GC GQ GA eV Calls IntKind.wrap Int.decLt Int.decLe
theorem aF5(t:T)(u:Value)(w:World)(μ:Mem)(hμ:MOk μ w)(hk:KR μ t.kids u)(i:t.size≤1600)(f:Sh t)(j:sO μ)(hm:vN μ):
 bC 10 #[.agg (cO t u).toArray] w (.bool (aBm t)):=by
 have ou:=hk.one;have a:=fun w μc hw (hle:MLe μ μc)=>zI t u w μc hw (hk.mono hle) (by omega) f;have e:=fun w μc hw (hle:MLe μ μc)=>ZP 1600 t u w μc hw (hk.mono hle) (by omega) i f (j.mono hle) (hm.mono hle);generalize c:aBm t=R;unfold aBm at c;generalize EH 1600 t=ck at e c;obtain⟨c1,c2⟩:=ck;dsimp only at e c;refine aF Tryz.func10 rfl Tryz.ntmps10 (by simp) hμ ?_;by_cases h:t.op=1
 rotate_left
 ·try repeat' (first|refine KZ ?_|refine NB fun b=>?_)
  all_goals exact aQ rfl rfl (by rw[←c];simp[h])
 cases g:rtB t 1 false with
 | false=>
   rw[g]at a c;try repeat' (first|refine KO ?_|refine K2 9 a ?_|refine KZ ?_|refine NB fun b=>?_)
   all_goals exact aQ rfl rfl (by rw[←c];simp)
 | true=>
   rw[g]at a c;try repeat' (first|refine KO ?_|refine K2 9 a ?_|refine K2 25 e ?_|refine KZ ?_|refine NB fun b=>?_)
   all_goals exact aQ rfl rfl (by rw[←c];simp[h])
end
section
open Go.RowKit Go.Vcg Go.MapKept
def JH:T:=T.mk 34 33 0 0 ⟨#[120]⟩ []
def rT:T:=T.mk 17 26 0 0 ⟨#[]⟩ [JH]
def rM:T:=T.mk 6 24 0 0 ⟨#[]⟩ [rT]
def CX:T:=T.mk 5 21 0 0 ⟨#[]⟩ []
def nQ:T:=T.mk 4 11 1 0 ⟨#[102]⟩ [CX,rM]
def UX:T:=T.mk 34 4 0 0 ⟨#[120]⟩ []
def CY:T:=T.mk 30 8 1 0 ⟨#[]⟩ []
def rU:T:=T.mk 3 4 0 0 ⟨#[]⟩ [UX,CY]
def rL:T:=T.mk 2 0 1 0 ⟨#[]⟩ [rU]
def oO:T:=T.mk 1 0 0 0 ⟨#[]⟩ [rL,nQ]
attribute [local irreducible] jY dT eM bF dR dM anI jK iB G GC GQ GA eV Calls IntKind.wrap Int.decLt Int.decLe
theorem CV(w:World)(μ:Mem)(hμ:MOk μ w):
 Calls Tryz.prog 19 #[] w fun e w' =>∃v μ',e=.returned v∧vI w w' μ μ' ∧∃u,v=.agg (cO oO u).toArray∧KR μ' oO.kids u:=by
 refine aF Tryz.func19 rfl Tryz.ntmps19 (by simp) hμ ?_;try repeat' (first|refine KZ ?_|refine NB fun b=>?_)
 rename_i b0 bx s6 s8 s10 b2 s14 s16;refine sC rfl (aIh (vs:=cO oO (.slice (some ⟨b,0,none⟩) 2 2)) 8 rfl rfl rfl rfl rfl (by repeat first|exact cH|refine bL rfl ?_)) (fun μ' l hL=>?_);have f:=hL _ (aE ..);have g:=hL _ (bP (aE ..));have h:=hL _ (bP (bP (aE ..)));have j:=hL _ (bP (bP (bP (bP (aE ..)))));have o:=hL _ (bP (bP (bP (bP (bP (aE ..))))));have h6:=hL _ (bP (bP (bP (bP (bP (bP (aE ..)))))));have k6:KR μ' rT.kids (Value.slice (some ⟨s6,0,none⟩) 1 1):=KR.pY (c:=1) (ps:=[(JH,Value.slice none 0 0)]) (yL h6 (fun i v hv=>sT hv)) (aC _) (fun p a=>by rw[aJ.1 a];exact KR.nil _ _ _);have k8:KR μ' rM.kids (Value.slice (some ⟨s8,0,none⟩) 1 1):=KR.pY (c:=1) (ps:=[(rT,Value.slice (some ⟨s6,0,none⟩) 1 1)]) (yL o (fun i v hv=>sT hv)) (aC _) (fun p a=>by rw[aJ.1 a];exact k6);have k10:KR μ' nQ.kids (Value.slice (some ⟨s10,0,none⟩) 2 2):=KR.pY (c:=2) (ps:=[(CX,Value.slice none 0 0),(rM,Value.slice (some ⟨s8,0,none⟩) 1 1)]) (yL j (fun i v hv=>sT hv)) (aC _) (fun p a=>by
  rcases aR.1 a with rfl|a
  ·exact KR.nil _ _ _
  ·rw[aJ.1 a];exact k8)
 have k14:KR μ' rU.kids (Value.slice (some ⟨s14,0,none⟩) 2 2):=KR.pY (c:=2) (ps:=[(UX,Value.slice none 0 0),(CY,Value.slice none 0 0)]) (yL h (fun i v hv=>sT hv)) (aC _) (fun p a=>by
  rcases aR.1 a with rfl|a
  ·exact KR.nil _ _ _
  ·rw[aJ.1 a];exact KR.nil _ _ _)
 have k16:KR μ' rL.kids (Value.slice (some ⟨s16,0,none⟩) 1 1):=KR.pY (c:=1) (ps:=[(rU,Value.slice (some ⟨s14,0,none⟩) 2 2)]) (yL g (fun i v hv=>sT hv)) (aC _) (fun p a=>by rw[aJ.1 a];exact k14);exact⟨_,rfl,KR.pY (c:=2) (ps:=[(rL,Value.slice (some ⟨s16,0,none⟩) 1 1),(nQ,Value.slice (some ⟨s10,0,none⟩) 2 2)]) (yL f (fun i v hv=>sT hv)) (aC _) (fun p a=>by
  rcases aR.1 a with rfl|a
  ·exact k16
  ·rw[aJ.1 a];exact k10)⟩
end
section
open Go.RowKit Go.Vcg
attribute [local irreducible] G GC GQ GA eV Calls IntKind.wrap Int.decLt Int.decLe
end
section
open Go.RowKit Go.Vcg
def aKh:ByteArray:= "fresh9".toUTF8
theorem aLy(a e:Int)(s:ES):iX false a e s=s:=by unfold iX;rw[if_neg (by simp)]
def sg(r:Int):Int:=if 0<r then r+1 else r
theorem aAv{a c:Int}:sg a=sg c↔a=c:=by unfold sg;split<;>split<;>omega
theorem aIe(a:Int):sg a≠1:=by unfold sg;split<;>omega
def sgD(d:ED):ED:=⟨d.lex,d.ins.map sg,sg d.par,d.twice⟩
theorem ZT(r:Int)(l:List Int):(l.map sg).contains (sg r)=l.contains r:=by
 induction l with
 |nil=>rfl
 | cons a l ih=>
   rw[aL,nB,nB,ih];congr 1;by_cases h:r=a
   ·subst h;simp
   ·rw[beq_false_of_ne h,beq_false_of_ne (fun e=>h (aAv.1 e))]
theorem aLo(a c:ED):nM (sgD a) (sgD c)=nM a c:=by
 unfold nM sgD;dsimp only;have h1:sg c.par≠0↔c.par≠0:=by exact not_congr ((show sg c.par=0↔sg c.par=sg 0 from Iff.rfl).trans aAv)
 simp only[h1,aAv];congr 2;rw[jT];congr 1;funext r;exact ZT r c.ins
def fr1:ED:=⟨false,[1],0,false⟩
theorem aLq(c:ED):nM fr1 (sgD c)=false:=by
 unfold nM fr1 sgD;dsimp only;rw[if_neg (fun h=>h.2.1 h.2.2.symm)];have:(c.ins.map sg).contains 1=false:=by rw[List.contains_eq_mem,decide_eq_false_iff_not,List.mem_map];rintro⟨a,-,h⟩;exact aIe a h
 simp[this];intro _ x _ h;exact absurd h (aIe x)
def SR(s s' :ES):Prop:=s.e≠0∨(s.e=0∧s'.e=0∧s'.at' =0∧s'.regs=s.regs+1∧∀x,oA x s'.names=(if x=aKh then[fr1]else[])++(oA x s.names).map sgD)
theorem SR.bad{s s' :ES}(h:SR s s'){c c' :Bool}(hc:s.e=0→c' =true→c=true){e:Int}(he:e≠0)(a:Int):SR (iX c a e s) (iX c' a e s'):=by
 rcases h with h|⟨h0,h1,h2,h3,h4⟩
 ·rw[IC h];exact .inl h
 cases c with
 | true=>
   left;unfold iX;rw[if_pos ⟨rfl,h0⟩];exact he
 | false=>
   cases c' with
   |true=>cases hc h0 rfl
   | false=>
     rw[aLy,aLy];exact .inr ⟨h0,h1,h2,h3,h4⟩
theorem SR.decl{s s' :ES}(h:SR s s')(a:Int)(x:ByteArray)(d:ED):SR (rV a x d s) (rV a x (sgD d) s'):=by
 have hb:SR (iX ((oA x s.names).any fun o=>nM o d) a 30 s) (iX ((oA x s'.names).any fun o=>nM o (sgD d)) a 30 s'):=by
  by_cases he:s.e=0
  ·have c:=h;rcases h with h|⟨h0,h1,h2,h3,h4⟩
   ·exact absurd he h
   refine c.bad (fun _=>?_) (by decide) a;rw[h4 x,List.any_append,jT];have e1:((if x=aKh then[fr1]else[]):List ED).any (fun o=>nM o (sgD d))=false:=by
    split
    ·simp[aLq]
    ·rfl
   have e2:((fun o=>nM o (sgD d))∘sgD)=fun o=>nM o d:=by funext o;exact aLo o d
   rw[e1,e2,nE];exact fun h=>h
  ·exact h.bad (fun h=>absurd h he) (by decide) a
 unfold rV;dsimp only;rcases hb with hb|⟨h0,h1,h2,h3,h4⟩
 ·exact .inl hb
 refine .inr ⟨h0,h1,h2,h3,fun y=>?_⟩;dsimp only;rw[uU,uU];by_cases b:y=x
 ·subst b;rw[if_pos rfl,if_pos rfl,h4 y,bJ,bA];rfl
 ·rw[if_neg b,if_neg b];exact h4 y
theorem SR.name{s s' :ES}(h:SR s s')(wd:ByteArray→Int)(t:T)(x:ByteArray){p p' :EP}(hg:p'.gen=p.gen)(hs:p'.strict=p.strict):SR (nO wd t x p s) (nO wd t x p' s'):=by
 unfold nO;dsimp only;rw[hg,hs];refine SR.bad ?_ (fun _ h=>h) (by decide) _;split
 ·exact(h.bad (fun _ h=>h) (by decide) _).bad (fun _ h=>h) (by decide) _
 ·exact h.bad (fun _ h=>h) (by decide) _
theorem SR.with{s s' :ES}(h:SR s s'):SR (eX s) (eX s'):=by
 rcases h with h|⟨h0,h1,h2,h3,h4⟩
 ·exact .inl h
 ·exact .inr ⟨h0,h1,h2,by show s'.regs+1=s.regs+1+1;omega,h4⟩
section
variable{wd:ByteArray→Int}{N:T→EP→ES→ES}{B:T→EP→ED→ES→ES}
theorem pV{α:Type}{g:ES→α→ES}(hg:∀s k,s.e≠0→(g s k).e≠0):∀(l:List α) (s:ES),s.e≠0→(l.foldl g s).e≠0
 |[],_,h=>h
 |k::r,s,h=>pV hg r _ (hg s k h)
end
section
variable{wd:ByteArray→Int}
theorem AZ{c:Bool}{a e:Int}{s:ES}(h:s.e≠0):(iX c a e s).e≠0:=by rw[IC h];exact h
theorem aHd{a:Int}{x:ByteArray}{d:ED}{s:ES}(h:s.e≠0):(rV a x d s).e≠0:=AZ h
theorem aFz{t:T}{x:ByteArray}{p:EP}{s:ES}(h:s.e≠0):(nO wd t x p s).e≠0:=(rG (F:=fun _=>False) wd t x p s).per h
theorem aI5(N:T→EP→ES→ES)(B:T→EP→ED→ES→ES)(t:T)(p:EP)(s:ES)(h:s.e≠0):(CQ wd N B t p s).e≠0:=by unfold CQ;rw[if_pos h];exact h
theorem aLx(N:T→EP→ES→ES)(B:T→EP→ED→ES→ES)(hpN:∀k p s,s.e≠0→(N k p s).e≠0)(hpB:∀k p d s,s.e≠0→(B k p d s).e≠0)(t:T)(p:EP)(d:ED)(s:ES)(h:s.e≠0):(DF wd N B t p d s).e≠0:=by
 unfold DF;split
 ·exact aHd (aFz h)
 split
 ·exact AZ h
 split
 ·exact hpN _ _ _ (hpB _ _ _ _ h)
 split
 ·exact hpB _ _ _ _ (hpN _ _ _ h)
 split
 ·exact pV (fun s k h=>hpB k _ _ s h) _ _ h
 ·exact h
theorem TY:∀(f:Nat),(∀t p s,s.e≠0→((nbE wd f).1 t p s).e≠0)∧∀t p d s,s.e≠0→((nbE wd f).2 t p d s).e≠0
 |0=>⟨fun _ _ _ h=>h,fun _ _ _ _ h=>h⟩
 |f+1=>⟨fun t p s h=>aI5 _ _ t p s h,fun t p d s h=>aLx _ _ (TY f).1 (TY f).2 t p d s h⟩
end
end
section
open Go.RowKit Go.Vcg Ou
theorem aEd{x:ByteArray}(h:bl x≠[]∧(bl x).all (fun c=>decide (VN c.toNat∨aAf c.toNat))=true∧∀c,(bl x)[0]? =some c→VN c.toNat):lI x=true:=by
 refine UP ⟨h.1,fun i c hc=>?_⟩;cases i with
 |zero=>exact .inl (h.2.2 c hc)
 | succ i=>
   rcases of_decide_eq_true (eJ.1 h.2.1 c (aB hc))with h1|h1
   ·exact .inl h1
   ·exact .inr ⟨by simp,h1⟩
theorem aKi:lI ⟨#[120]⟩=true:=aEd ⟨by decide+kernel,by decide+kernel,fun c hc=>by
 have e:(bl ⟨#[120]⟩)[0]? =some 120:=by decide+kernel
 rw[e]at hc;cases hc;decide+kernel⟩
theorem IT{t:T}{s:Bool}(a:knR t.op)(b:0≤t.at')(hm:t.m=0)(h4:t.op≠4)(hn:0≤t.n∧t.n≤lB t.op)(hw:oM t=true)(hl:iC t=false):Nd t s:=by
 refine⟨(xC _).2 a,?_,fun h=>by rw[hl]at h;cases h.1⟩;unfold nV;have hb:IB t=false:=by unfold IB;rw[decide_eq_false (show¬t.at' <0 by omega),decide_eq_false (fun h=>h hm)];rfl
 rw[if_neg (by rw[hb];simp),if_neg h4,decide_eq_true hn.1,decide_eq_true hn.2,hw];rfl
theorem aDi{x:ByteArray}{at' :Int}(b:0≤at')(a:lI x=true){d:Nat}(hd:d≤200)(s:Bool):Rt (.mk 34 at' 0 0 x []) d s:=by
 refine .mk hd (IT (by unfold knR;simp[T.op]) b rfl (by simp[T.op]) ⟨mV _,by simp[lB,T.op,T.n]⟩ ?_ (by simp[iC,T.op])) ?_ fun i k hk=>by simp[T.kids]at hk
 ·unfold oM;simp[T.op,T.s,a]
 ·unfold bD exB;simp[T.op,T.kids]
theorem dJ.imp{p q:T→Prop}(a:∀t,p t→q t){t:T}(h:dJ p t):dJ q t:=by
 induction h with
 |mk h _ ih=>exact .mk (a _ h) ih
theorem dJ.and{p q:T→Prop}{t:T}(h:dJ p t)(h2:dJ q t):dJ (fun t=>p t∧q t) t:=by
 induction h with
 |mk h _ ih=>exact .mk ⟨h,h2.here⟩ fun k hk=>ih k hk (h2.kid hk)
theorem LR{t:T}(h:dJ (fun t=>t.s.size≤4000∧lO t.op∧lO t.n∧lO t.m) t):Sh t:=by
 induction h with
 |mk h _ ih=>exact .mk h.1 h.2.1 h.2.2.1 h.2.2.2 ih
end
section
open Go.RowKit Go.Vcg
theorem aQa:Sh oO:=LR (by
 have h0:(⟨#[]⟩:ByteArray).size≤4000:=by decide
 have e:(⟨#[120]⟩:ByteArray).size≤4000:=by decide
 have hf:(⟨#[102]⟩:ByteArray).size≤4000:=by decide
 have q:∀{s:ByteArray} {a b c:Int},s.size≤4000→lO a→lO b→lO c→s.size≤4000∧lO a∧lO b∧lO c:=fun a b c d=>⟨a,b,c,d⟩;have z0:lO 0:=by unfold lO;omega
 have z1:lO 1:=by unfold lO;omega
 refine .mk (q h0 z1 z0 z0) fun k hk=>?_;rcases aR.1 hk with rfl|hk
 ·refine .mk (q h0 (by unfold lO;simp[rL,T.op]) (by unfold lO;simp[rL,T.n]) (by unfold lO;simp[rL,T.m])) fun k hk=>?_;rw[aJ.1 hk];refine .mk (q h0 (by unfold lO;simp[rU,T.op]) (by unfold lO;simp[rU,T.n]) (by unfold lO;simp[rU,T.m])) fun k hk=>?_;rcases aR.1 hk with rfl|hk
  ·exact .mk (q e (by unfold lO;simp[UX,T.op]) (by unfold lO;simp[UX,T.n]) (by unfold lO;simp[UX,T.m])) fun k hk=>by cases hk
  ·rw[aJ.1 hk];exact .mk (q h0 (by unfold lO;simp[CY,T.op]) (by unfold lO;simp[CY,T.n]) (by unfold lO;simp[CY,T.m])) fun k hk=>by cases hk
 ·rw[aJ.1 hk];refine .mk (q hf (by unfold lO;simp[nQ,T.op]) (by unfold lO;simp[nQ,T.n]) (by unfold lO;simp[nQ,T.m])) fun k hk=>?_;rcases aR.1 hk with rfl|hk
  ·exact .mk (q h0 (by unfold lO;simp[CX,T.op]) (by unfold lO;simp[CX,T.n]) (by unfold lO;simp[CX,T.m])) fun k hk=>by cases hk
  ·rw[aJ.1 hk];refine .mk (q h0 (by unfold lO;simp[rM,T.op]) (by unfold lO;simp[rM,T.n]) (by unfold lO;simp[rM,T.m])) fun k hk=>?_;rw[aJ.1 hk];refine .mk (q h0 (by unfold lO;simp[rT,T.op]) (by unfold lO;simp[rT,T.n]) (by unfold lO;simp[rT,T.m])) fun k hk=>?_;rw[aJ.1 hk];exact .mk (q e (by unfold lO;simp[JH,T.op]) (by unfold lO;simp[JH,T.n]) (by unfold lO;simp[JH,T.m])) fun k hk=>by cases hk)
theorem KT:oO.size≤20:=by simp[oO,rL,rU,UX,CY,nQ,CX,rM,rT,JH,T.size_eq,T.kids]
theorem aSc:lI ⟨#[102]⟩=true:=aEd ⟨by decide+kernel,by decide+kernel,fun c hc=>by
 have e:(bl ⟨#[102]⟩)[0]? =some 102:=by decide+kernel
 rw[e]at hc;cases hc;decide+kernel⟩
theorem wd0{t:T}(h:t.s=⟨#[]⟩)(h1:t.op≠23∧t.op≠34∧t.op≠51∧¬(42≤t.op∧t.op≤46)):oM t=true:=by
 unfold oM;rw[h];split
 ·rfl
 ·rw[if_neg (by omega)];split
  ·rfl
  ·rw[if_neg (by omega),if_neg (by omega),if_neg (by omega),if_neg (by omega),if_neg (by omega)];rfl
theorem UQ:fR (gL nQ) 5=1∧gL nQ 1=true∧gL nQ 4=false∧gL nQ 128=false:=by decide+kernel
theorem aRn(s:Bool):Nd nQ s:=by
 refine⟨(xC _).2 (by unfold knR;simp[nQ,T.op]),?_,fun h=>by have:iC nQ=false:=rfl;rw[this]at h;cases h.1⟩;have hb:IB nQ=false:=rfl;obtain⟨f1,f2,f3,f4⟩:=UQ;unfold nV;rw[if_neg (by rw[hb];simp),if_pos (show nQ.op=4 from rfl)];unfold AY;rw[f1,f2,f3,f4];have a:lI nQ.s=true:=aSc;have hn:nQ.n=1:=rfl;rw[a,hn];rw[if_neg (by simp),if_neg (by simp),if_pos rfl];decide
theorem aR1:bD nQ=true:=by
 have h4:gL nQ 128=false:=UQ.2.2.2;unfold bD stB;simp only[nQ,T.op,T.kids];simp only[show(4:Int)≤23 by omega,show¬((4:Int)=1∨(4:Int)=6)by omega,show¬(4:Int)=2 by omega,show¬(4:Int)=3 by omega,if_false,if_true];unfold eK xN;rw[show gL (T.mk 4 11 1 0 ⟨#[102]⟩ [CX,rM]) 128=false from h4];simp only[aL,iR];rw[rK];dsimp only;rw[if_pos (by simp[ofT,CX,T.op]),rK];dsimp only;rw[if_pos (by simp[ofT,rM,T.op])];exact mQ []
theorem aDj{op at' n:Int}{s:ByteArray}{d:Nat}{sp:Bool}(hd:d≤200)(hn:Nd (.mk op at' n 0 s []) sp)(hk:bD (.mk op at' n 0 s [])=true):Rt (.mk op at' n 0 s []) d sp:=.mk hd hn hk fun i k h=>by simp[T.kids]at h
theorem aRb{d:Nat}(hd:d≤200)(s:Bool):Rt CY d s:=aDj hd (IT (by unfold knR;simp[T.op]) (by simp[T.at']) rfl (by simp[T.op]) (by simp[lB,T.op,T.n]) (wd0 rfl (by simp[T.op])) (by simp[iC,T.op])) (by unfold bD exB;simp[T.op,T.kids])
theorem aRa{d:Nat}(hd:d≤200)(s:Bool):Rt CX d s:=aDj hd (IT (by unfold knR;simp[T.op]) (by simp[T.at']) rfl (by simp[T.op]) (by simp[lB,T.op,T.n]) (wd0 rfl (by simp[T.op])) (by simp[iC,T.op])) (by
 unfold bD stB;simp only[T.op,T.kids];simp only[show(5:Int)≤23 by omega,show¬((5:Int)=1∨(5:Int)=6)by omega,show¬(5:Int)=2 by omega,show¬(5:Int)=3 by omega,show¬(5:Int)=4 by omega,if_false,if_true];rw[aB8,List.dropWhile_nil,US];exact mQ [])
theorem aQ9{d:Nat}(hd:d≤199)(s:Bool):Rt rT d s:=.mk (by omega) (IT (by unfold knR;simp[rT,T.op]) (by simp[rT,T.at']) rfl (by simp[rT,T.op]) (by simp[lB,rT,T.op,T.n]) (wd0 rfl (by simp[rT,T.op])) (by simp[rT,iC,T.op])) (by
 unfold bD stB;simp[rT,T.op,T.kids,jL,bT,JH]) fun i k h=>by
  cases i with
  | zero=>
    have h:some JH=some k:=h;cases h;exact aDi (by omega) aKi (by omega) _
  |succ i=>simp[rT,T.kids]at h
theorem aRe{d:Nat}(hd:d≤198)(s:Bool):Rt rM d s:=.mk (by omega) (IT (by unfold knR;simp[rM,T.op]) (by simp[rM,T.at']) rfl (by simp[rM,T.op]) (by simp[lB,rM,T.op,T.n]) (wd0 rfl (by simp[rM,T.op])) (by simp[rM,iC,T.op])) (by
 unfold bD stB;simp[rM,T.op,T.kids,jL,fN,rT]) fun i k h=>by
  cases i with
  | zero=>
    have h:some rT=some k:=h;cases h;exact aQ9 (by omega) _
  |succ i=>simp[rM,T.kids]at h
theorem aRc{d:Nat}(hd:d≤197)(s:Bool):Rt nQ d s:=.mk (by omega) (aRn s) aR1 fun i k h=>by
 cases i with
 | zero=>
   have h:some CX=some k:=h;cases h;exact aRa (by omega) _
 | succ i=>
   cases i with
   | zero=>
     have h:some rM=some k:=h;cases h;exact aRe (by omega) _
   |succ i=>simp[nQ,T.kids]at h
theorem aRd{d:Nat}(hd:d≤199)(s:Bool):Rt rU d s:=by
 refine .mk (by omega) (IT (by unfold knR;simp[rU,T.op]) (by simp[rU,T.at']) rfl (by simp[rU,T.op]) (by simp[lB,rU,T.op,T.n]) (wd0 rfl (by simp[rU,T.op])) (by simp[rU,iC,T.op])) ?_ fun i k h=>?_
 ·unfold bD stB;simp only[rU,T.op,T.kids];simp only[show¬((3:Int)=1∨(3:Int)=6)by omega,show¬(3:Int)=2 by omega,if_false,if_true,show(3:Int)≤23 by omega];rw[rK];dsimp only;rw[if_pos (show dC UX=true by simp[dC,hH,UX,T.op]),US];dsimp only;rw[if_pos (show bT CY=true by simp[bT,CY,T.op])];exact mQ []
 ·cases i with
  | zero=>
    have h:some UX=some k:=h;cases h;exact aDi (by omega) aKi (by omega) _
  | succ i=>
    cases i with
    | zero=>
      have h:some CY=some k:=h;cases h;exact aRb (by omega) _
    |succ i=>simp[rU,T.kids]at h
theorem aQ8{d:Nat}(hd:d≤198)(s:Bool):Rt rL d s:=by
 refine .mk (by omega) (IT (by unfold knR;simp[rL,T.op]) (by simp[rL,T.at']) rfl (by simp[rL,T.op]) (by simp[lB,rL,T.op,T.n]) (wd0 rfl (by simp[rL,T.op])) (by simp[rL,iC,T.op])) ?_ fun i k h=>?_
 ·unfold bD stB;simp[rL,T.op,T.kids,jL,ofT,rU]
 ·cases i with
  | zero=>
    have h:some rU=some k:=h;cases h;exact aRd (by omega) _
  |succ i=>simp[rL,T.kids]at h
theorem aQb:rtB oO 1 false=true:=aDk (by
 refine .mk (by omega) (IT (by unfold knR;simp[oO,T.op]) (by simp[oO,T.at']) rfl (by simp[oO,T.op]) (by simp[lB,oO,T.op,T.n]) (wd0 rfl (by simp[oO,T.op])) (by simp[oO,iC,T.op])) ?_ fun i k h=>?_
 ·unfold bD stB;have h1:fN rL=true:=by simp[fN,rL,T.op]
  have h2:fN nQ=true:=by unfold fN;rw[if_pos (show nQ.op=4 from rfl)];exact UQ.2.1
  simp only[oO,T.op,T.kids];simp only[show(1:Int)≤23 by omega,if_true,true_or];unfold jL;simp[h1,h2]
 ·cases i with
  | zero=>
    have h:some rL=some k:=h;cases h;exact aQ8 (by omega) _
  | succ i=>
    cases i with
    | zero=>
      have h:some nQ=some k:=h;cases h;exact aRc (by omega) _
    |succ i=>simp[oO,T.kids]at h)
def exL:List Sc:=[⟨-1,0,0,0,[⟨⟨#[120]⟩,1,true,0⟩]⟩,⟨0,1,1,11,[]⟩]
def aUv:Us:=⟨4,0,1,0,0,1,⟨#[120]⟩,false⟩
def aSn:Us:=⟨33,1,1,0,0,1,⟨#[120]⟩,true⟩
theorem RY:qZ (gS 20 oO)=exL:=by kernel_rfl
theorem aOn:(gS 20 oO).uses.map (tO exL)=[aUv,aSn]:=by kernel_rfl
theorem aK2:¬4096<fQ (gS 20 oO).scopes:=by decide+kernel
open Go.MapKept
theorem aTz{μ:Mem}{v:Value}(h:KX 20 oO μ v):∃ad c ad2 c2,v=.tuple #[.slice (some ad) 2 c,.int .i64 0]∧gF μ (ad.add (0*5)) [.int .i64 (-1),.int .i64 0,.int .i64 0,.int .i64 0,.slice (some ad2) 1 c2]∧gF μ (ad2.add (0*4)) [.string ⟨#[120]⟩,.int .i64 1,.bool true,.int .i64 0]:=by
 rcases h with⟨h,-⟩|⟨-,A,c,ps,rfl,⟨o,-,f⟩,b⟩
 ·exact absurd h aK2
 rw[RY]at b;have hl:ps.length=2:=by have:=congrArg List.length b;rw[kV]at this;exact this
 obtain⟨ad,y,rfl,l,hm⟩:=o.get (show 0<ps.length by omega);obtain⟨cy,v⟩:=y;have g:=mE l;rw[b]at g;have g:some (⟨-1,0,0,0,[⟨⟨#[120]⟩,1,true,0⟩]⟩:Sc)=some cy:=g;cases g;have e:=f _ (aB l);dsimp only at e hm;obtain⟨A2,c2,rfl,j,-⟩:=e;obtain⟨ad2,y2,rfl,a,i⟩:=j.get (show 0<1 by omega);have a:some (⟨⟨#[120]⟩,1,true,0⟩:Bd)=some y2:=a;cases a;rw[hl];exact⟨ad,c,ad2,c2,rfl,hm,i⟩
theorem aMg{μ:Mem}{v:Value}(h:pK 20 oO μ v):∃ad c,v=.tuple #[.slice (some ad) 2 c,.int .i64 0]∧gF μ (ad.add (1*8)) [.int .i64 33,.int .i64 1,.int .i64 1,.int .i64 0,.int .i64 0,.int .i64 1,.string ⟨#[120]⟩,.bool true]:=by
 rcases h with⟨h,-⟩|⟨-,r,rfl,A,c,rfl,b⟩
 ·exact absurd h aK2
 rw[RY,aOn]at b⊢;obtain⟨ad,y,rfl,a,hm⟩:=b.get (show 1< [aUv,aSn].length by decide);have a:some aSn=some y:=a;cases a;exact⟨ad,c,rfl,hm⟩
theorem aQc:oO.op=1:=rfl
attribute [local irreducible] qZ gS rtB KX pK oO
attribute [local irreducible] jY dT eM bF dR dM anI jK iB G GC GQ GA eV Calls IntKind.wrap Int.decLt Int.decLe
theorem YA(w:World)(μ:Mem)(hμ:MOk μ w)(h:sO μ):
 bC 6 #[] w (.bool true):=by
 refine aF Tryz.func6 rfl Tryz.ntmps6 (by simp) hμ ?_;try repeat' (first|((with_reducible show GC _ _ (Code.seq (Code.region 2 _ _) _) _ _ _ _);(apply dX))|refine KO ?_|((with_reducible apply F2 19);exact rfl;exact EN;exact fun w hw=>CV w _ hw;rintro vA μA j ⟨uA,rfl,o⟩;have t:=o.one;have h:=h.mono j)|((with_reducible apply F2 12);exact rfl;exact EN;exact fun w hw=>aH9 20 oO uA w _ hw o (dU KT (by decide)) KT aQa h aQc aQb;rintro vB μB i hpB;obtain⟨ad,c,ad2,c2,rfl,e,a⟩:=aTz hpB;have h:=h.mono i))
 refine gcs ?_;try repeat' (first|((with_reducible show GC _ _ (Code.seq (Code.region 3 _ _) _) _ _ _ _);(apply dX))|refine KO ?_|((with_reducible apply F2 19);exact rfl;exact EN;exact fun w hw=>CV w _ hw;rintro vC μC f ⟨uC,rfl,l⟩;have r:=l.one;have h:=h.mono f;have e:=e.mono f;have a:=a.mono f)|((with_reducible apply F2 8);exact rfl;exact EN;exact fun w hw=>LK 20 oO uC w _ hw l (dU KT (by decide)) KT aQa h aQc aQb;rintro vD μD g p;obtain⟨ad3,c3,rfl,q⟩:=aMg p;have e:=e.mono g;have a:=a.mono g))
 refine gcs ?_;try repeat' (first|refine KO ?_|(refine KV (b:=by first|exact U1 0|exact U1 1|exact U4 e|exact U4 a|exact U4 q) (c:=?_))|refine KZ ?_)
 all_goals exact aQ rfl rfl rfl
end
section
open Go.RowKit Go.Vcg Go.MapKept
attribute [local irreducible] qZ gS rtB KX pK aBm mH rD findF
attribute [local irreducible] jY dT eM bF dR dM anI jK iB G GC GQ GA eV Calls IntKind.wrap Int.decLt Int.decLe
end
section
open Go.ChangeShapes Go.WideShapes Go.ChangeAt Go.RowKit Go.Deep Go.Vcg
theorem aMh{W:World}{l:List (String×DataW Unit)}(h:laidMet Tryz.prog l W)(hm:("strings.asciiSpace",Rows.laid_strings_asciiSpace)∈l):sO (CT W):=by
 obtain⟨g,t,cs,fuel,p,h1,h2,h3,h4⟩:=Lib.laidMet.reads h hm;have hg:Tryz.prog.globalNamed "strings.asciiSpace" =some 0:=by kernel_rfl
 obtain rfl:=eC (hg.symm.trans h1);have ht:(Tryz.prog.globals[0]?).map (·.type)=some 174:=by kernel_rfl
 obtain rfl:=eC (ht.symm.trans h2);have hd:(Rows.laid_strings_asciiSpace:DataW Unit)=Lib.tabData .u8 Lib.asciiSpaceTab:=by rfl
 rw[hd]at h4;have hc:=Lib.cells_of_tab Tryz.underlying174 Tryz.underlying5 (by kernel_rfl) (by kernel_rfl) h4;intro w hw;unfold Lib.TabIs World.var?;unfold World.var? at h3;rw[hg]at h3⊢;simp only[Option.bind_some]at h3⊢;cases hb:W.heap[0]? with
 |none=>rw[hb]at h3;cases h3
 | some o=>
   rw[hw _ o hb];rw[hb]at h3;cases o<;>simp at h3;rename_i cs' _ _;subst h3;simp only[aW];rw[←hc]
theorem aNd{W:World}(h:W.ShapedOpen Tryz.prog):vN (CT W):=by
 obtain⟨m,hm⟩:=cell_of_shapedOpen_int (g:=2) (t:=3) (zero:= #[.int .i64 0]) (k:=.i64) h (of_decide_eq_true (by kernel_rfl)) (by kernel_rfl) rfl (by kernel_rfl) (by kernel_rfl) (by kernel_rfl);exact⟨m,qD.aDs hm⟩
end
section
open Go.RowKit Go.Vcg
structure Fl where
 (t:T) (up:Int) (kid fn num last:Nat)
def jZ(l:List Fl):Nat:=l.countP fun e=>decide (e.t.op=4)
def fE(f:T→Int→Nat→Nat→Nat→Nat→List Fl):List T→Int→Nat→Nat→Nat→Nat→List Fl
 |[],_,_,_,_,_=>[]
 |k::r,pa,j,fn,i,c=>f k pa j fn i c++fE f r pa (j+1) fn (i+k.size) (c+jZ (f k pa j fn i c))
def rQ(t:T)(fn c:Nat):Nat:=if t.op=4 then c+1 else fn
def kH(t:T)(c:Nat):Nat:=if t.op=4 then c+1 else c
def gE:Nat→T→Int→Nat→Nat→Nat→Nat→List Fl
 |0,_,_,_,_,_,_=>[]
 |n+1,t,up,kid,fn,i,c=>⟨t,up,kid,fn,if t.op=4 then c+1 else 0,i+t.size-1⟩::fE (gE n) t.kids i 0 (rQ t fn c) (i+1) (kH t c)
theorem uX{f:T→Int→Nat→Nat→Nat→Nat→List Fl}:∀(ks:List T) (pa:Int) (j fn i c:Nat),(∀k∈ks,∀pa j fn i c,(f k pa j fn i c).length=k.size)→(fE f ks pa j fn i c).length=szs ks
 |[],_,_,_,_,_,_=>rfl
 | k::r,pa,j,fn,i,c,h=>by rw[fE,aI,h k (aE ..),uX r _ _ _ _ _ fun k hk=>h k (bP hk),bK]
theorem eN{t k:T}{n:Nat}(h:t.size≤n+1)(hk:k∈t.kids):k.size≤n:=by
 have h1:=aS t;have h2:k.size≤szs t.kids:=T.eL (List.mem_map.2 ⟨k,hk,rfl⟩);omega
theorem pH:∀(n:Nat) (t:T) (up:Int) (kid fn i c:Nat),t.size≤n→(gE n t up kid fn i c).length=t.size
 |0,t,_,_,_,_,_,h=>by have:=aS t;omega
 | n+1,t,up,kid,fn,i,c,h=>by rw[gE,bH,uX t.kids _ _ _ _ _ fun k hk _ _ _ _ _=>pH n k _ _ _ _ _ (eN h hk),aS t];omega
theorem qB(a b:List Fl):jZ (a++b)=jZ a+jZ b:=by unfold jZ;rw[List.countP_append]
def AtG(E:List Fl)(n:Nat)(t:T)(up:Int)(kid fn i c:Nat):Prop:=∃pre post,E=pre++gE n t up kid fn i c++post∧pre.length=i∧jZ pre=c
def qF(E:List Fl)(n:Nat)(ks:List T)(pa:Int)(j fn i c:Nat):Prop:=∃pre post,E=pre++fE (gE n) ks pa j fn i c++post∧pre.length=i∧jZ pre=c
theorem AtG.head{E:List Fl}{n:Nat}{t:T}{up:Int}{kid fn i c:Nat}(h:AtG E (n+1) t up kid fn i c):E[i]? =some ⟨t,up,kid,fn,if t.op=4 then c+1 else 0,i+t.size-1⟩:=by
 obtain⟨pre,post,rfl,rfl,rfl⟩:=h;rw[gE,bA,aP (aC _),cK];rfl
theorem AtG.kids{E:List Fl}{n:Nat}{t:T}{up:Int}{kid fn i c:Nat}(h:AtG E (n+1) t up kid fn i c):qF E n t.kids i 0 (rQ t fn c) (i+1) (kH t c):=by
 obtain⟨pre,post,rfl,rfl,rfl⟩:=h;refine⟨pre++[⟨t,up,kid,fn,if t.op=4 then jZ pre+1 else 0,pre.length+t.size-1⟩],post,?_,by simp,?_⟩
 ·rw[gE];simp
 ·rw[qB];unfold kH jZ;by_cases h4:t.op=4<;>simp[h4]
theorem qF.hd{E:List Fl}{n:Nat}{k:T}{r:List T}{pa:Int}{j fn i c:Nat}(h:qF E n (k::r) pa j fn i c):AtG E n k pa j fn i c:=by
 obtain⟨pre,post,rfl,h1,h2⟩:=h;exact⟨pre,_,by rw[fE,bA,bA,←bA],h1,h2⟩
theorem qF.tl{E:List Fl}{n:Nat}{k:T}{r:List T}{pa:Int}{j fn i c:Nat}(h:qF E n (k::r) pa j fn i c)(hk:k.size≤n):qF E n r pa (j+1) fn (i+k.size) (c+jZ (gE n k pa j fn i c)):=by
 obtain⟨pre,post,rfl,rfl,rfl⟩:=h;exact⟨pre++gE n k pa j fn pre.length (jZ pre),post,by rw[fE];simp only[bA],by rw[aI,pH n k _ _ _ _ _ hk],by rw[qB]⟩
def aH(E:List Fl)(i:Nat):Fl:=(E[i]?).getD ⟨T.zero,-1,0,0,0,0⟩
theorem AtG.eat{E:List Fl}{n:Nat}{t:T}{up:Int}{kid fn i c:Nat}(h:AtG E (n+1) t up kid fn i c):aH E i=⟨t,up,kid,fn,if t.op=4 then c+1 else 0,i+t.size-1⟩:=by unfold aH;rw[h.head];rfl
def aU2(pa:Int)(fn i c j:Nat)(e:Fl):Prop:=(e.up=pa∨((i:Int)≤e.up∧e.up<i+j))∧(e.fn=fn∨c<e.fn)
theorem DZ{n:Nat}(hf:∀(t:T) (up:Int) (kid fn i c j:Nat) (e:Fl),t.size≤n→(gE n t up kid fn i c)[j]? =some e→(j=0∧e.up=up∨((i:Int)≤e.up∧e.up<i+j))∧(e.fn=fn∨c<e.fn)):∀(ks:List T) (pa:Int) (j0 fn i c j:Nat) (e:Fl),(∀k∈ks,k.size≤n)→(fE (gE n) ks pa j0 fn i c)[j]? =some e→aU2 pa fn i c j e
 |[],_,_,_,_,_,_,_,_,h=>by simp[fE]at h
 | k::r,pa,j0,fn,i,c,j,e,hk,h=>by
   rw[fE]at h;have hl:=pH n k pa j0 fn i c (hk k (aE ..));by_cases a:j<k.size
   ·rw[aV (by omega)]at h;obtain⟨h1,h2⟩:=hf k pa j0 fn i c j e (hk k (aE ..)) h;exact⟨h1.imp (fun h=>h.2) id,h2⟩
   ·rw[aP (by omega),hl]at h;obtain⟨h1,h2⟩:=DZ hf r pa (j0+1) fn (i+k.size) _ (j-k.size) e (fun k h=>hk k (bP h)) h;exact⟨h1.imp id (fun h=>by omega),h2.imp id (fun h=>by omega)⟩
theorem HX:∀(n:Nat) (t:T) (up:Int) (kid fn i c j:Nat) (e:Fl),t.size≤n→(gE n t up kid fn i c)[j]? =some e→(j=0∧e.up=up∨((i:Int)≤e.up∧e.up<i+j))∧(e.fn=fn∨c<e.fn)
 |0,t,_,_,_,_,_,_,_,h,_=>by have:=aS t;omega
 | n +1,t,up,kid,fn,i,c,j,e,hs,h=>by
   rw[gE]at h;cases j with
   | zero=>
     have h:some _=some e:=h;cases h;exact⟨.inl ⟨rfl,rfl⟩,.inl rfl⟩
   | succ j=>
     rw[bW]at h;obtain⟨h1,h2⟩:=DZ (HX n) t.kids i 0 _ (i+1) _ j e (fun k hk=>eN hs hk) h;refine⟨.inr (by rcases h1 with h1|h1<;>omega),?_⟩;unfold rQ kH at h2;by_cases h4:t.op=4
     ·rw[if_pos h4,if_pos h4]at h2;exact .inr (by omega)
     ·rw[if_neg h4,if_neg h4]at h2;exact h2
theorem qF.ent{E:List Fl}{n:Nat}{ks:List T}{pa:Int}{j fn i c:Nat}(h:qF E n ks pa j fn i c)(hk:∀k∈ks,k.size≤n){x:Nat}(a:i≤x∧x<i+szs ks):∃e,E[x]? =some e∧aU2 pa fn i c (x-i) e:=by
 obtain⟨pre,post,rfl,rfl,rfl⟩:=h;have hl:=uX (f:=gE n) ks pa j fn pre.length (jZ pre) fun k h _ _ _ _ _=>pH n k _ _ _ _ _ (hk k h);have hlt:x-pre.length< (fE (gE n) ks pa j fn pre.length (jZ pre)).length:=by omega
 refine⟨_,?_,DZ (HX n) ks pa j fn pre.length (jZ pre) (x-pre.length) _ hk (aA hlt)⟩;rw[bA,aP (by omega),aV (by omega)];exact aA hlt
def foldI{α:Type}(g:α→Nat→α):Nat→Nat→α→α
 |_,0,l=>l
 |i,m+1,l=>foldI g (i+1) m (g l i)
theorem kR{α:Type}(g:α→Nat→α):∀(a i b:Nat) (l:α),foldI g i (a+b) l=foldI g (i+a) b (foldI g i a l)
 |0,i,b,l=>by rw[bG];rfl
 | a+1,i,b,l=>by rw[show a+1+b=(a+b)+1 by omega,foldI,kR g a,foldI,show i+1+a=i+ (a+1)by omega]
theorem ZF{α:Type}(g:α→Nat→α):∀(m i:Nat) (l:α),(∀x,i≤x→x<i+m→∀l,g l x=l)→foldI g i m l=l
 |0,_,_,_=>rfl
 | m+1,i,l,h=>by rw[foldI,h i (aC _) (by omega),ZF g m (i+1) l fun x h1 h2=>h x (by omega) (by omega)]
def wP(t:T)(l:List Bd):List Bd:=if t.op=2∧t.n=0 then eM t l else l
def gK(E:List Fl)(m top:Nat)(sh:Bool)(l:List Bd)(i:Nat):List Bd:=
 let l1:=if(aH E i).fn=m then wP (aH E i).t l else l
 if(aH E i).up=top∧sh=false then bF [(aH E i).t] true l1 else l1
def EW(E:List Fl)(at' last:Nat):Nat→Nat→Nat
 |0,k=>k
 |f+1,k=>if k≤last∧¬((aH E k).up=at' ∧(aH E k).kid=1)then EW E at' last f (k+1)else k
def JV(E:List Fl)(a:Nat):List Bd:=
 foldI (gK E (aH E a).num (EW E a (aH E a).last ((aH E a).last-a) (a+1)) (jG (aH E a).t 128)) (a+1) ((aH E a).last-a) (dT 4 (bB (cQ (aH E a).t 0)) [])
section
variable{E:List Fl}{m top:Nat}{sh:Bool}
theorem RD{t:T}(h:t.op=4):∀(fu:Nat) (l:List Bd),dR fu t l=l
 |0,_=>rfl
 |fu+1,l=>by rw[dR,if_pos h]
theorem NF{t:T}(h:t.op≠4)(fu:Nat)(l:List Bd):dR (fu+1) t l=t.kids.foldl (fun l k=>dR fu k l) (wP t l):=by rw[dR,if_neg h];rfl
theorem MG{n:Nat}{ks:List T}{pa:Int}{j fn i c:Nat}(h:qF E n ks pa j fn i c)(hk:∀k∈ks,k.size≤n)(f:fn≠m)(hc:m≤c)(b:sh=true∨pa≠top)(a:sh=true∨(top<i∨i+szs ks≤top))(l:List Bd):foldI (gK E m top sh) i (szs ks) l=l:=
 ZF _ _ _ _ fun x h1 h2 l=>by
  obtain⟨e,he,hup,hf⟩:=h.ent hk ⟨h1,h2⟩;have he:aH E x=e:=by unfold aH;rw[he];rfl
  unfold gK;have n1:¬(e.fn=m):=by rcases hf with hf|hf<;>omega
  have n2:¬(e.up=top∧sh=false):=fun h=>by
   rcases b with b|b
   ·rw[b]at h;cases h.2
   rcases a with a|a
   ·rw[a]at h;cases h.2
   have:=h.1;rcases hup with hup|hup<;>omega
  rw[he,if_neg n1,if_neg n2]
theorem DQ{n:Nat}(ih:∀(k:T) (up:Int) (kid i c:Nat),k.size≤n→AtG E n k up kid m i c→m≤c→(sh=true∨(top<i∨i+k.size≤top))→(sh=true∨up≠top)→∀fu,k.size≤fu→∀l,foldI (gK E m top sh) i k.size l=dR fu k l)(fu:Nat):∀(ks:List T) (pa:Int) (j i c:Nat),(∀k∈ks,k.size≤n∧k.size≤fu)→qF E n ks pa j m i c→m≤c→(sh=true∨(top<i∨i+szs ks≤top))→(sh=true∨pa≠top)→∀l,foldI (gK E m top sh) i (szs ks) l=ks.foldl (fun l k=>dR fu k l) l
 |[],_,_,_,_,_,_,_,_,_,_=>rfl
 | k::r,pa,j,i,c,hk,h,hc,ht,b,l=>by have a:=hk k (aE ..);rw[bK]at ht⊢;rw[kR,ih k pa j i c a.1 h.hd hc (ht.imp id (by omega)) b fu a.2,bX];exact DQ ih fu r pa (j+1) (i+k.size) _ (fun k h=>hk k (bP h)) (h.tl a.1) (by omega) (ht.imp id (by omega)) b _
theorem BV:∀(n:Nat) (k:T) (up:Int) (kid i c:Nat),k.size≤n→AtG E n k up kid m i c→m≤c→(sh=true∨(top<i∨i+k.size≤top))→(sh=true∨up≠top)→∀fu,k.size≤fu→∀l,foldI (gK E m top sh) i k.size l=dR fu k l
 |0,k,_,_,_,_,h,_,_,_,_,_,_,_=>by have:=aS k;omega
 | n+1,k,up,kid,i,c,hs,h,hc,ht,hu,fu,f,l=>by
   have e:=aS k;have he:=h.eat;have a:=h.kids;have b:gK E m top sh l i=wP k l:=by unfold gK;rw[he];dsimp only;rw[if_pos rfl,if_neg (fun h=>hu.elim (fun h1=>by rw[h1]at h;cases h.2) fun h1=>h1 h.1)]
   rw[e,jR,foldI,b];by_cases h4:k.op=4
   ·rw[RD h4];unfold rQ kH at a;rw[if_pos h4,if_pos h4]at a;rw[MG a (fun k hk=>eN hs hk) (by omega) (by omega) (ht.imp id (by omega)) (ht.imp id (by omega))];unfold wP;rw[if_neg (by omega)]
   ·unfold rQ kH at a;rw[if_neg h4,if_neg h4]at a;obtain⟨fu,rfl⟩:∃x,fu=x+1:=⟨fu-1,by omega⟩;rw[NF h4];exact DQ (BV n) fu k.kids i 0 (i+1) c (fun y g=>⟨eN hs g,eN f g⟩) a hc (ht.imp id (by omega)) (ht.imp id (by omega)) _
theorem aMm{n:Nat}{k:T}{kid i c:Nat}(hs:k.size≤n)(h:AtG E n k top kid m i c)(hc:m≤c)(ht:top<i)(fu:Nat)(f:k.size≤fu)(l:List Bd):foldI (gK E m top false) i k.size l=dR fu k (bF [k] true l):=by
 have e:=aS k;obtain⟨n,rfl⟩:∃x,n=x+1:=⟨n-1,by omega⟩;have he:=h.eat;have a:=h.kids;have b:gK E m top false l i=bF [k] true (wP k l):=by unfold gK;rw[he];dsimp only;rw[if_pos rfl,if_pos ⟨rfl,rfl⟩]
 rw[e,jR,foldI,b];by_cases h4:k.op=4
 ·rw[RD h4];unfold rQ kH at a;rw[if_pos h4,if_pos h4]at a;rw[MG a (fun k hk=>eN hs hk) (by omega) (by omega) (.inr (by omega)) (.inr (by omega))];unfold wP;rw[if_neg (by omega)]
 ·unfold rQ kH at a;rw[if_neg h4,if_neg h4]at a;obtain⟨fu,rfl⟩:∃x,fu=x+1:=⟨fu-1,by omega⟩;rw[NF h4,DQ (BV n) fu k.kids i 0 (i+1) c (fun y g=>⟨eN hs g,eN f g⟩) a hc (.inr (by omega)) (.inr (by omega))];congr 1;unfold bF;simp only[bX,List.foldl_nil];have hb:jG k 1=false:=by unfold jG;rw[decide_eq_false h4];rfl
  rw[hb];unfold wP;by_cases h2:k.op=2<;>by_cases h0:k.n=0<;>simp[h2,h0]
theorem VY{n:Nat}(fu:Nat):∀(ks:List T) (j i c:Nat),(∀k∈ks,k.size≤n∧k.size≤fu)→qF E n ks top j m i c→m≤c→top<i→∀l,foldI (gK E m top false) i (szs ks) l=ks.foldl (fun l k=>dR fu k (bF [k] true l)) l
 |[],_,_,_,_,_,_,_,_=>rfl
 | k::r,j,i,c,hk,h,hc,ht,l=>by have a:=hk k (aE ..);rw[bK,kR,aMm a.1 h.hd hc ht fu a.2,bX];exact VY fu r (j+1) (i+k.size) _ (fun k h=>hk k (bP h)) (h.tl a.1) (by omega) (by omega) _
end
theorem PY{E:List Fl}{a last:Nat}:∀(f k q:Nat),q≤k+f→k≤q→q≤last→(∀x,k≤x→x<q→¬((aH E x).up=a∧(aH E x).kid=1))→((aH E q).up=a∧(aH E q).kid=1)→EW E a last f k=q
 | 0,k,q,h1,h2,_,_,_=>by
   obtain rfl:k=q:=by omega
   rfl
 | f+1,k,q,h1,h2,h3,h4,h5=>by
   rw[EW];by_cases he:k=q
   ·subst he;rw[if_neg (fun h=>h.2 h5)]
   ·rw[if_pos ⟨by omega,h4 k (aC _) (by omega)⟩];exact PY f (k+1) q (by omega) (by omega) h3 (fun x h6 b=>h4 x (by omega) b) h5
structure aPi (t:T):Prop where
 two:∃p d,t.kids=[p,d]
 par:(cQ t 0).op=5
 body:(cQ t 1).op=6∧jG t 128=false∨(cQ t 1).op≠6∧jG t 128=true
theorem KW{E:List Fl}{n:Nat}{t:T}{up:Int}{kid fn i c:Nat}(h:AtG E (n+1) t up kid fn i c)(hs:t.size≤n+1)(h4:t.op=4)(ab:aPi t)(fu:Nat)(ad:t.size≤fu):JV E i=dM fu t:=by
 have he:=h.eat;have b:=h.kids;obtain⟨⟨p,d,a⟩,-,hb⟩:=ab;have z:=aS t;have v:cQ t 0=p:=by unfold cQ;rw[a];rfl
 have u:cQ t 1=d:=by unfold cQ;rw[a];rfl
 rw[u]at hb;have hp:p.size≤n:=eN hs (by rw[a];exact aE ..);have hd:d.size≤n:=eN hs (by rw[a];exact bP (aE ..));rw[a,bK,bK,show szs []=0 from rfl]at z;unfold rQ kH at b;rw[if_pos h4,if_pos h4,a]at b;obtain⟨n,rfl⟩:∃x,n=x+1:=⟨n-1,by have:=aS p;omega⟩;have hP:=b.hd;have r:=b.tl hp;have hD:=r.hd;have w:=hD.eat;rw[if_pos h4]at he;unfold JV;rw[he];dsimp only;have g:i+t.size-1-i=p.size+d.size:=by omega
 have q:EW E i (i+t.size-1) (p.size+d.size) (i+1)=i+1+p.size:=by
  refine PY _ _ _ (by omega) (by omega) (by have:=aS d;omega) (fun x h1 h2 h3=>?_) (by rw[w];exact⟨rfl,rfl⟩);by_cases hx:x=i+1
  ·subst hx;rw[hP.eat]at h3;have:=h3.2;dsimp only at this;omega
  ·obtain⟨e,hex,hup,-⟩:=hP.kids.ent (fun k hk=>eN hp hk) (x:=x) (by have:=aS p;omega);have hex:aH E x=e:=by unfold aH;rw[hex];rfl
   rw[hex]at h3;rcases hup with hup|hup<;>omega
 rw[g,q,kR,BV (top:=i+1+p.size) (n+1) p i 0 (i+1) (c+1) hp hP (aC _) (.inr (by omega)) (.inr (by omega)) fu (by omega),v];unfold dM;rw[v,u];dsimp only;generalize dR fu p (dT 4 (bB p) [])=l;rcases hb with⟨y,j⟩|⟨y,j⟩
 ·rw[j,if_neg (by rintro(h|h);exact h y;cases h)];have aa:=aS d;have f:gK E (c+1) (i+1+p.size) false l (i+1+p.size)=l:=by unfold gK;rw[w];dsimp only;rw[if_pos rfl,if_neg (fun h=>by omega)];unfold wP;rw[if_neg (by omega)]
  rw[aa,jR 1,foldI,f];have o:=hD.kids;unfold rQ kH at o;rw[if_neg (by omega),if_neg (by omega)]at o;exact VY fu d.kids 0 _ _ (fun k hk=>⟨eN hd hk,by have:=eN hd hk;have h9:k.size≤szs d.kids:=T.eL (List.mem_map.2 ⟨k,hk,rfl⟩);omega⟩) o (by omega) (by omega) l
 ·rw[j,if_pos (.inr rfl)];exact BV (n+1) d i 1 _ _ hd hD (by omega) (.inl rfl) (.inl rfl) fu (by omega) l
end
section
open Go.RowKit Go.Vcg
structure RS where
 (L:List Sc) (ins ops:List Int) (us:List (Int×ByteArray×Int))
def inG(E:List Fl)(ins ops:List Int)(up:Int)(kid:Nat):Int:=
 if 0≤up then(if(ops[up.toNat]?).getD 0<0∨((aH E up.toNat).t.op=21∧kid=0)then(ins[up.toNat]?).getD 0 else(ops[up.toNat]?).getD 0)else-1
def kT(l:List Bd)(kind:Int):List Bd×Int:=if l.length=0 then(l,-1)else(l,kind)
def nmE(E:List Fl)(i:Nat):List Bd×Int:=
 let t:=(aH E i).t
 if t.op=1 then(bF t.kids false [],0)
 else if t.op=4 then(JV E i,1)
 else if t.op=6 then kT (if 0≤(aH E i).up∧(aH E (aH E i).up.toNat).t.op≠4 then bF t.kids true []else[]) 2
 else if t.op=21 then kT ((t.kids.drop 1).foldl (fun l k=>bF k.kids true l) []) 2
 else if t.op=10∨t.op=11∨t.op=12 then kT (bF [cQ t 0] false []) 3
 else if t.op=20 then kT (dT 5 (bB (cQ t 0)) []) 4
 else kT [] 0
def mR(E:List Fl)(i:Nat):Bool:=decide ((aH E i).t.op=34)||(decide (0≤(aH E i).up)&&decide ((aH E (aH E i).up.toNat).t.op=39)&&decide ((aH E (aH E i).up.toNat).t.n=3)&&decide ((aH E i).kid=0))
def jC(t:T):Bool:=decide (t.op=4)&&(!decide (t.s=⟨#[]⟩)&& !jG t 1)
def bI(E:List Fl)(s:RS)(i:Nat):RS:=
 let e:=aH E i
 let in0:=inG E s.ins s.ops e.up e.kid
 let us:=if mR E i=true then s.us++[(in0,e.t.s,(e.fn:Int))]else s.us
 let r:=nmE E i
 if r.2<0 then⟨s.L,s.ins++[in0],s.ops++[-1],us⟩
 else
  let fn:Int:=if e.t.op=4 then(e.num:Int)else(e.fn:Int)
  let L1:=if jC e.t=true then s.L++[⟨in0,fn,5,e.t.at',[⟨e.t.s,7,false,0⟩]⟩]else s.L
  let in1:Int:=if jC e.t=true then(s.L.length:Int)else in0
  ⟨L1++[⟨in1,fn,r.2,e.t.at',r.1⟩],s.ins++[in0],s.ops++[(L1.length:Int)],us⟩
def HS(u:Ux):Int×ByteArray×Int:=(u.u.scope,u.u.name,u.fn)
structure Rel (i c:Nat) (s:FS) (st:RS):Prop where
 L:st.L=s.scopes
 us:st.us=s.uses.map HS
 li:st.ins.length=i
 lo:st.ops.length=i
 fc:s.funcs=c
def Ext(st st' :RS):Prop:=∃a b,st'.ins=st.ins++a∧st'.ops=st.ops++b
theorem Ext.refl(st:RS):Ext st st:=⟨[],[],by simp,by simp⟩
theorem Ext.trans{a b c:RS}(h:Ext a b)(e:Ext b c):Ext a c:=by
 obtain⟨x,y,h1,h2⟩:=h;obtain⟨x',y',h3,h4⟩:=e;exact⟨x++x',y++y',by rw[h3,h1,bA],by rw[h4,h2,bA]⟩
theorem Ext.inG{st st' :RS}{i pa:Nat}(h:Ext st st')(E:List Fl)(hl:st.ins.length=i∧st.ops.length=i)(c:pa<i)(jj:Nat):inG E st'.ins st'.ops (pa:Int) jj=Go.Proofs.YtlllalmkkaolfaaGreatDoor.inG E st.ins st.ops (pa:Int) jj:=by
 obtain⟨a,b,h1,h2⟩:=h;unfold Go.Proofs.YtlllalmkkaolfaaGreatDoor.inG;rw[h1,h2,aG,aV (by omega),aV (by omega)]
def Eqv(s s' :FS):Prop:=s'.scopes=s.scopes∧s'.funcs=s.funcs∧s'.uses.map HS=s.uses.map HS
theorem Eqv.refl(s:FS):Eqv s s:=⟨rfl,rfl,rfl⟩
theorem Eqv.symm{s s' :FS}(h:Eqv s s'):Eqv s' s:=⟨h.1.symm,h.2.1.symm,h.2.2.symm⟩
theorem Eqv.trans{a b c:FS}(h:Eqv a b)(e:Eqv b c):Eqv a c:=⟨e.1.trans h.1,e.2.1.trans h.2.1,e.2.2.trans h.2.2⟩
theorem Rel.eqv{i c:Nat}{s s' :FS}{st:RS}(h:Rel i c s st)(he:Eqv s s'):Rel i c s' st:=⟨by rw[he.1];exact h.L,by rw[he.2.2];exact h.us,h.li,h.lo,by rw[he.2.1];exact h.fc⟩
structure Vn (t:T):Prop where
 fn:t.op=4→aPi t
 sht:t.op=39→t.n=3→∃k,t.kids=[k]∧k.op=31∧k.kids=[]
 one:t.op=3∨t.op=21∨t.op=10∨t.op=11∨t.op=12∨t.op=20→1≤t.kids.length
 nam:t.op=34→t.kids=[]
 pr:t.op≠1
section
variable{E:List Fl}{n fu:Nat}
theorem BW{t:T}{up:Int}{kid fn i c:Nat}{w:Wh}{s:FS}{st:RS}{kind:Int}{l:List Bd}(hA:AtG E (n+1) t up kid fn i c)(a:Rel i c s st)(j:w.fn=fn)(f:w.scope=inG E st.ins st.ops up kid)(h4:t.op≠4)(hk:0≤kind)(g:nmE E i=kT l kind)(hu:mR E i=false):
 Rel (i+1) c (iJ kind t.at' w l s) (bI E st i)∧Ext st (bI E st i)∧∀jj,inG E (bI E st i).ins (bI E st i).ops (i:Int) jj=if t.op=21∧jj=0 then w.scope else(eF w l s).scope:=by
 have he:=hA.eat;have e:jC t=false:=by unfold jC;rw[decide_eq_false h4];rfl
 have key:bI E st i=if l.length=0 then⟨st.L,st.ins++[w.scope],st.ops++[-1],st.us⟩else⟨st.L++[⟨w.scope,fn,kind,t.at',l⟩],st.ins++[w.scope],st.ops++[(st.L.length:Int)],st.us⟩:=by
  unfold bI;rw[he];dsimp only;rw[hu,g,e,←f,if_neg h4];unfold kT;by_cases hl:l.length=0
  ·rw[if_pos hl,if_pos hl,if_pos (show(-1:Int)<0 by decide)];rfl
  ·rw[if_neg hl,if_neg hl,if_neg (by dsimp only;omega)];rfl
 have hin:∀(o:Int) (jj:Nat),inG E (st.ins++[w.scope]) (st.ops++[o]) (i:Int) jj=if o<0∨(t.op=21∧jj=0)then w.scope else o:=fun o jj=>by unfold inG;rw[if_pos (by omega),aG,aP (by rw[a.lo];exact aC _),aP (by rw[a.li];exact aC _),a.li,a.lo,cK,he];rfl
 rw[key];unfold iJ eF;by_cases hl:l.length=0
 ·rw[if_pos hl,if_pos hl,if_pos hl];refine⟨⟨a.L,a.us,by simp[a.li],by simp[a.lo],a.fc⟩,⟨_,_,rfl,rfl⟩,fun jj=>?_⟩;rw[hin,if_pos (.inl (by decide))];split<;>rfl
 ·rw[if_neg hl,if_neg hl,if_neg hl];refine⟨⟨by unfold kL;dsimp only;rw[a.L,j],a.us,by simp[a.li],by simp[a.lo],a.fc⟩,⟨_,_,rfl,rfl⟩,fun jj=>?_⟩;rw[hin];by_cases b:t.op=21∧jj=0
  ·rw[if_pos (.inr b),if_pos b]
  ·rw[if_neg (by rintro(h|h);exact absurd h (by omega);exact b h),if_neg b,a.L];rfl
def oX(F:FS→T→Nat→FS):List T→Nat→FS→FS
 |[],_,s=>s
 |k::r,j,s=>oX F r (j+1) (F s k j)
theorem sI(F:FS→T×Nat→FS):∀(ks:List T) (j:Nat) (s:FS),(ks.zipIdx j).foldl F s=oX (fun s k j=>F s (k,j)) ks j s
 |[],_,_=>rfl
 |k::r,j,s=>by rw[lW,bX,sI F r];rfl
theorem lJ(N:T→Wh→FS→FS)(w:Wh):∀(ks:List T) (j:Nat) (s:FS),oX (fun s k _=>N k w s) ks j s=vM N ks w s
 |[],_,_=>rfl
 |k::r,j,s=>by unfold vM;rw[bX];exact lJ N w r (j+1) _
theorem AJ(F:FS→T→Nat→FS):∀(ks:List T) (j:Nat) (s:FS),oX F ks j s=oX (fun s k j=>F s k (j-1)) ks (j+1) s
 |[],_,_=>rfl
 |k::r,j,s=>by rw[oX,oX,Nat.add_sub_cancel];exact AJ F r (j+1) _
def Good(E:List Fl)(n fu f:Nat)(k:T):Prop:=∀(up:Int) (kid fn i c:Nat) (w:Wh) (s:FS) (st:RS),AtG E n k up kid fn i c→Rel i c s st→w.fn=fn→w.scope=inG E st.ins st.ops up kid→
 ¬(0≤up∧(aH E up.toNat).t.op=39∧(aH E up.toNat).t.n=3∧kid=0)→(k.op=6→0≤up∧(aH E up.toNat).t.op≠4)→
 Rel (i+k.size) (c+jZ (gE n k up kid fn i c)) (nbS fu f k w s) (foldI (bI E) i k.size st)∧Ext st (foldI (bI E) i k.size st)
theorem NC(F:FS→T→Nat→FS)(pa:Nat)(fn:Nat)(wh:Nat→Int)(ih:∀k,k.size≤n→dJ Vn k→∀f,k.size≤f→Good E n fu f k):∀(ks:List T) (j i c:Nat) (s:FS) (st:RS),(∀k∈ks,k.size≤n∧dJ Vn k)→qF E n ks (pa:Int) j fn i c→Rel i c s st→pa<i→
 (∀jj,j≤jj→inG E st.ins st.ops (pa:Int) jj=wh jj)→
 (∀(k:T) (jj:Nat) (s:FS),k∈ks→j≤jj→∃f w s1,k.size≤f∧Eqv s s1∧Eqv (nbS fu f k w s1) (F s k jj)∧w.fn=fn∧w.scope=wh jj)→
 (∀jj,j≤jj→¬((aH E pa).t.op=39∧(aH E pa).t.n=3∧jj=0))→(∀k∈ks,k.op=6→(aH E pa).t.op≠4)→
 Rel (i+szs ks) (c+jZ (fE (gE n) ks (pa:Int) j fn i c)) (oX F ks j s) (foldI (bI E) i (szs ks) st)∧Ext st (foldI (bI E) i (szs ks) st)
 |[],j,i,c,s,st,_,_,b,_,_,_,_,_=>⟨b,Ext.refl st⟩
 | k::r,j,i,c,s,st,hk,hA,b,u,hw,q,e,h6=>by obtain⟨a,o⟩:=hk k (aE ..);obtain⟨f,w,s1,hf,e1,e2,l,g⟩:=q k j s (aE ..) (aC _);obtain⟨g1,g2⟩:=ih k a o f hf (pa:Int) j fn i c w s1 st hA.hd (b.eqv e1) l (by rw[g,hw j (aC _)]) (fun h=>e j (aC _) (by rw[aG]at h;exact h.2)) (fun h=>⟨by omega,by rw[aG];exact h6 k (aE ..) h⟩);rw[bK,kR,oX,fE,qB,←cW,←cW];obtain⟨g3,g4⟩:=NC F pa fn wh ih r (j+1) (i+k.size) _ _ _ (fun k h=>hk k (bP h)) (hA.tl a) (g1.eqv e2) (by omega) (fun jj p=>by rw[g2.inG E ⟨b.li,b.lo⟩ u];exact hw jj (by omega)) (fun k jj s h p=>q k jj s (bP h) (by omega)) (fun jj p=>e jj (by omega)) (fun k h=>h6 k (bP h));exact⟨g3,g2.trans g4⟩
theorem zP{i:Nat}{t:T}(h:(aH E i).t=t)(hn:t.op≠1∧t.op≠4∧t.op≠6∧t.op≠21∧t.op≠10∧t.op≠11∧t.op≠12∧t.op≠20):nmE E i=kT [] 0:=by
 unfold nmE;rw[h];dsimp only;rw[if_neg (by omega),if_neg (by omega),if_neg (by omega),if_neg (by omega),if_neg (by omega),if_neg (by omega)]
theorem LG{i:Nat}{e:Fl}(h:aH E i=e)(b:e.t.op≠34)(c:¬(0≤e.up∧(aH E e.up.toNat).t.op=39∧(aH E e.up.toNat).t.n=3∧e.kid=0)):mR E i=false:=by
 unfold mR;rw[h,decide_eq_false b,nE];cases a:(decide (0≤e.up)&&decide ((aH E e.up.toNat).t.op=39)&&decide ((aH E e.up.toNat).t.n=3)&&decide (e.kid=0))with
 |false=>rfl
 | true=>
   rw[aM,aM,aM]at a;exact absurd ⟨of_decide_eq_true a.1.1.1,of_decide_eq_true a.1.1.2,of_decide_eq_true a.1.2,of_decide_eq_true a.2⟩ c
theorem OM(n:Nat)(t:T)(up:Int)(kid fn i c:Nat):c+jZ (gE (n+1) t up kid fn i c)=kH t c+jZ (fE (gE n) t.kids i 0 (rQ t fn c) (i+1) (kH t c)):=by
 rw[gE];unfold jZ kH;rw[nZ];by_cases h4:t.op=4<;>simp[h4];omega
theorem pC{t:T}{up:Int}{kid fn i c:Nat}{w:Wh}{s:FS}{st:RS}{kind:Int}{l:List Bd}(ih:∀k,k.size≤n→dJ Vn k→∀f,k.size≤f→Good E n fu f k)(hs:t.size≤n+1)(hq:dJ Vn t)(hA:AtG E (n+1) t up kid fn i c)(q:Rel i c s st)(o:w.fn=fn)(g:w.scope=inG E st.ins st.ops up kid)(h4:t.op≠4)(p:¬(t.op=39∧t.n=3))(hk:0≤kind)(j:nmE E i=kT l kind)(hu:mR E i=false)
 (F:FS→T→Nat→FS)(wh:Nat→Int)(b:∀jj,wh jj=if t.op=21∧jj=0 then w.scope else(eF w l s).scope)(r:∀(k:T) (jj:Nat) (s:FS),k∈t.kids→∃f w s1,k.size≤f∧Eqv s s1∧Eqv (nbS fu f k w s1) (F s k jj)∧w.fn=fn∧w.scope=wh jj):
 Rel (i+t.size) (c+jZ (gE (n+1) t up kid fn i c)) (oX F t.kids 0 (iJ kind t.at' w l s)) (foldI (bI E) i t.size st)∧Ext st (foldI (bI E) i t.size st):=by
 obtain⟨h1,h2,h3⟩:=BW hA q o g h4 hk j hu;have e:=aS t;have he:=hA.eat;have a:=hA.kids;rw[OM,e,←cW,kR];unfold rQ kH at a⊢;rw[if_neg h4,if_neg h4]at a⊢;obtain⟨g1,g2⟩:=NC (E:=E) (n:=n) (fu:=fu) F i fn wh ih t.kids 0 (i+1) c _ _ (fun k hk=>⟨eN hs hk,hq.kid hk⟩) a h1 (by omega) (fun jj _=>by rw[h3,b]) (fun k jj s hk _=>r k jj s hk) (fun jj _ h=>by rw[he]at h;exact p ⟨h.1,h.2.1⟩) (fun k _ _=>by rw[he];exact h4);exact⟨g1,h2.trans g2⟩
end
end
end Go.Proofs.YtlllalmkkaolfaaGreatDoor
