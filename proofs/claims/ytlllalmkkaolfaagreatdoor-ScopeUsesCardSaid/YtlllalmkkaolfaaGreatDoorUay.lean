/- Package scope: scope's reference: early, walked. -/
import Derived.Test.YtlllalmkkaolfaaGreatDoorUax
set_option maxRecDepth 20000
set_option maxHeartbeats 2000000
namespace Go.Proofs.YtlllalmkkaolfaaGreatDoor
section
open Go.RowKit Go.Vcg Go.MapKept
theorem SM{E:List Fl}(hup:∀k,k<E.length→ -1≤(aH E k).up∧(aH E k).up<k)(op:Int):∀(f:Nat) (i:Int),-1≤i→i<E.length→(i<f)→ -1≤hZ E op f i∧hZ E op f i<E.length∧(0≤hZ E op f i→(aH E (hZ E op f i).toNat).t.op=op)
 | 0,i,h1,h2,h3=>by rw[hZ];exact⟨h1,h2,fun h=>by omega⟩
 | f +1,i,h1,h2,h3=>by
   rw[hZ];by_cases h0:i<0
   ·rw[if_pos h0];exact⟨h1,h2,fun h=>by omega⟩
   ·rw[if_neg h0];have hu:=hup i.toNat (by omega);by_cases ho:(aH E i.toNat).t.op=op
    ·rw[if_pos ho];exact⟨h1,h2,fun _=>ho⟩
    ·rw[if_neg ho];exact SM hup op f _ hu.1 (by omega) (by omega)
attribute [local irreducible] aH wH oS kD xK oB
attribute [local irreducible] jY dT eM bF dR dM anI jK iB G GC GQ GA eV Calls IntKind.wrap Int.decLt Int.decLe
theorem WT(E:List Fl)(R:RS)(G:Gw E R)(fv:Value)(es:List (Fl×Value))(x a:Nat)(β:Bd)(A:Option Addr)(c ib ob:Nat)(ps:List (Sc×Value))(μ:Mem)(hF:FLs μ E fv es)(r:GV E)(ao:ScR μ A ps)(hI:Sl CZ 1 μ (some ⟨ib,0,none⟩) E.length R.ins)(hO:Sl CZ 1 μ (some ⟨ob,0,none⟩) E.length R.ops)(hx:x<E.length)(ha:a<ps.length)(au:oB (scs ps) a=oB R.L a)(af:∀i,(aH E i).t.op=3∨(i<E.length∧(aH E i).t.op=22)→0≤(aH E i).up)(hd:(β.kind=1∨β.kind=2)→∃d0:Nat,xK E R a β.name=(d0:Int)∧d0<E.length)(w:World)(hμ:MOk μ w):
 bC 31 #[fv,.agg #[.slice A ps.length c,.slice (some ⟨ib,0,none⟩) E.length E.length,.slice (some ⟨ob,0,none⟩) E.length E.length],.int .i64 (x:Int),.int .i64 (a:Int),.agg (mI β).toArray] w (.bool (wM E R x a β.name β.kind)):=by
 obtain⟨nm,kd,hl,sl⟩:=β;dsimp only at hd⊢;have j:=fun w μc hw (hle:MLe μ μc)=>aA6 E R fv es a nm A ps.length c ib (.slice (some ⟨ob,0,none⟩) E.length E.length) rfl μc (hF.mono hle) r (hI.mono hle) (fun i h=>af i (.inl h)) w hw;have f:=fun(d:Nat) (w:World) (μc:Mem) (hw:MOk μc w) (hle:MLe μ μc)=>aFh E fv es x d μc (hF.mono hle) r (fun hx q=>DP G hx q) (fun h=>by unfold wH;rw[TS,if_pos h]) hx w hw;have g:=fun w μc hw (hle:MLe μ μc)=>aA4 E R fv es x (a:Int) A ps.length c ob (.slice (some ⟨ib,0,none⟩) E.length E.length) rfl μc (hF.mono hle) r (hO.mono hle) (fun hx q=>FQ G hx q) (fun h=>by unfold oS;rw[FT,if_pos h]) hx w hw;have ab:=fun(d:Nat) (hd:d<E.length) (w:World) (μc:Mem) (hw:MOk μc w) (hle:MLe μ μc)=>TN E fv es (d:Int) 22 μc (hF.mono hle) r (by omega) (by omega) w hw;have ba:=r.len;have ae:=r.ups;have l:=fun(d:Nat) (hd:d<E.length)=>SM ae 22 (d+2) (d:Int) (by omega) (by omega) (by omega);obtain⟨A0,cA,rfl⟩:=hF.form;obtain⟨hS,ap,a1⟩:=ao;generalize hr:wM E R x a nm kd=res;unfold wM at hr;refine aF (args:=[.slice A0 E.length cA,.agg #[.slice A ps.length c,.slice (some ⟨ib,0,none⟩) E.length E.length,.slice (some ⟨ob,0,none⟩) E.length E.length],.int .i64 (x:Int),.int .i64 (a:Int),.agg #[.string nm,.int .i64 kd,.bool hl,.int .i64 sl]]) Tryz.func31 rfl Tryz.ntmps31 (by simp) hμ ?_;by_cases c1:kd≠1∧kd≠2
 ·rw[if_pos c1]at hr;subst hr;obtain⟨c1,c2⟩:=c1;try repeat' (first|refine KZ ?_|refine NB fun b=>?_)
  all_goals exact aQ rfl rfl rfl
 rw[if_neg c1]at hr;have hk:kd=1∨kd=2:=by omega
 obtain⟨d0,ax,ag⟩:=hd hk;rw[ax]at hr j;rw[aG]at hr;have f:=f d0;have ab:=ab d0 ag;have l:=l d0 ag;rw[show hZ E 22 (d0+2) (d0:Int)=kD E (d0:Int) 22 by unfold kD;rw[aG]]at l;obtain⟨adA,e,u,rfl,bc,av,aa,a8,bb⟩:=hF.get hx;obtain⟨ad9,ed,ud,e9,-,aw,v,-,-⟩:=hF.get ag;cases e9;obtain⟨ads,ys,rfl,an,o⟩:=hS.get ha;obtain⟨cs,vs⟩:=ys;unfold fF at o;dsimp only at o;have ar:oB R.L a=cs.fn:=by rw[←au];unfold oB;rw[mE an];rfl
 rw[av,aw,ar]at hr;obtain⟨t,up,kid,fn,num,last⟩:=e;obtain⟨td,upd,kidd,fnd,numd,lastd⟩:=ed;dsimp only at hr aa v;cases ho:wH E x d0 with
 | true=>
   rw[ho,if_pos rfl]at hr;rw[ho]at f;subst hr;rcases hk with rfl|rfl
   ·try repeat' (first|refine KO ?_|refine K2 54 j ?_|refine K2 55 f ?_|refine KZ ?_|refine NB fun b=>?_)
    all_goals exact aQ rfl rfl rfl
   ·try repeat' (first|refine KO ?_|refine K2 54 j ?_|refine K2 55 f ?_|refine KZ ?_|refine NB fun b=>?_)
    all_goals exact aQ rfl rfl rfl
 | false=>
   rw[ho,if_neg (by decide)]at hr;rw[ho]at f;by_cases h1:((fn:Int)≠cs.fn∨x≤lastd)
   ·rw[if_pos h1]at hr;subst hr;try repeat' (first|refine KO ?_|refine K2 54 j ?_|refine K2 55 f ?_|refine KZ ?_|refine NB fun b=>?_|(refine KB ?_ ?_<;>intro q))
    all_goals
     refine aZ 21 _ (by kernel_rfl) rfl (cP (aD aT)) ?_;all_goals(refine DD 0 ?_;refine DD 1 ?_;refine D2 2 rfl (by exact U1 x) ?_;refine DD 3 ?_;refine D2 4 rfl (by exact U4 aa) ?_;refine D1 5 ?_;refine DD 6 ?_;refine DD 7 ?_;refine D2 8 rfl (by exact U1 a) ?_;refine DD 9 ?_;refine D2 10 rfl (by exact U4 o) ?_;refine D1 11 ?_;refine DD 12 ?_)
     all_goals(try(refine D7 13 ?_;(repeat' (refine KB ?_ ?_<;>intro q))))
     all_goals(refine DD 13 ?_;refine DD 14 ?_;refine DD 15 ?_;(first|refine D1 16 ?_|(refine D2 16 rfl (by exact U1 d0) ?_));(first|refine D1 17 ?_|refine DD 17 ?_);(first|refine D1 18 ?_|(refine D2 18 rfl (by exact U4 v) ?_));refine D1 19 ?_;refine DD 20 ?_;refine D8 ?_)
     all_goals try repeat' (refine KZ ?_)
     all_goals exact aQ rfl rfl rfl
   have az:(fn:Int)=cs.fn:=Decidable.byContradiction fun h=>h1 (.inl h);have hx1:¬x≤lastd:=fun h=>h1 (.inr h);rw[if_neg h1]at hr;clear h1;cases hh:oS E R x (a:Int)with
   | true=>
     rw[hh,if_pos rfl]at hr;rw[hh]at g;subst hr;try repeat' (first|refine KO ?_|refine K2 54 j ?_|refine K2 55 f ?_|refine KZ ?_|refine NB fun b=>?_|(refine KB ?_ ?_<;>intro q))
     all_goals
      refine aZ 21 _ (by kernel_rfl) rfl (cP (aD aT)) ?_;all_goals(refine DD 0 ?_;refine DD 1 ?_;refine D2 2 rfl (by exact U1 x) ?_;refine DD 3 ?_;refine D2 4 rfl (by exact U4 aa) ?_;refine D1 5 ?_;refine DD 6 ?_;refine DD 7 ?_;refine D2 8 rfl (by exact U1 a) ?_;refine DD 9 ?_;refine D2 10 rfl (by exact U4 o) ?_;refine D1 11 ?_;refine DD 12 ?_)
      all_goals(try(refine D7 13 ?_;(repeat' (refine KO ?_))))
      all_goals(refine DD 13 ?_;refine DD 14 ?_;refine DD 15 ?_;refine D2 16 rfl (by exact U1 d0) ?_;refine DD 17 ?_;refine D2 18 rfl (by exact U4 v) ?_;refine D1 19 ?_;refine DD 20 ?_;refine D8 ?_)
      all_goals try repeat' (first|refine KO ?_|refine K2 56 g ?_|refine KZ ?_)
      all_goals exact aQ rfl rfl rfl
   | false=>
     rw[hh,if_neg (by decide)]at hr;rw[hh]at g;obtain⟨cz,ay⟩:∃z,kD E (d0:Int) 22=z:=⟨_,rfl⟩;rw[ay]at hr ab l;by_cases hn:cz<0
     ·rw[if_pos (.inl hn)]at hr;subst hr;try repeat' (first|refine KO ?_|refine K2 54 j ?_|refine K2 55 f ?_|refine KZ ?_|refine NB fun b=>?_|(refine KB ?_ ?_<;>intro q))
      all_goals
       refine aZ 21 _ (by kernel_rfl) rfl (cP (aD aT)) ?_;all_goals(refine DD 0 ?_;refine DD 1 ?_;refine D2 2 rfl (by exact U1 x) ?_;refine DD 3 ?_;refine D2 4 rfl (by exact U4 aa) ?_;refine D1 5 ?_;refine DD 6 ?_;refine DD 7 ?_;refine D2 8 rfl (by exact U1 a) ?_;refine DD 9 ?_;refine D2 10 rfl (by exact U4 o) ?_;refine D1 11 ?_;refine DD 12 ?_)
       all_goals(try(refine D7 13 ?_;(repeat' (refine KO ?_))))
       all_goals(refine DD 13 ?_;refine DD 14 ?_;refine DD 15 ?_;refine D2 16 rfl (by exact U1 d0) ?_;refine DD 17 ?_;refine D2 18 rfl (by exact U4 v) ?_;refine D1 19 ?_;refine DD 20 ?_;refine D8 ?_)
       all_goals try repeat' (first|refine KO ?_|refine K2 56 g ?_|refine K2 57 ab ?_|refine KZ ?_)
       all_goals
        refine aZ 15 _ (by kernel_rfl) rfl (cP (aD aT)) ?_;all_goals(refine DD 0 ?_;refine D1 1 ?_;refine DD 2 ?_)
        all_goals(try(refine D7 3 ?_;(repeat' (refine KO ?_))))
        all_goals(refine D1 3 ?_;refine D1 4 ?_;refine DD 5 ?_;refine DD 6 ?_;refine D1 7 ?_;refine D1 8 ?_;refine D1 9 ?_;refine D1 10 ?_;refine D1 11 ?_;refine DD 12 ?_;refine D1 13 ?_;refine DD 14 ?_;refine D8 ?_)
        all_goals try repeat' (refine KZ ?_)
        all_goals exact aQ rfl rfl rfl
     ·obtain⟨c0,rfl⟩:∃c0:Nat,cz=c0:=⟨cz.toNat,by omega⟩;have al:=l.2.2 (by omega);rw[aG]at al hr;have ah:c0<E.length:=by omega
      have a7:=af c0 (.inr ⟨ah,al⟩);have a6:=ae c0 ah;obtain⟨ad8,ec,uc,e8,-,ak,ad,-,-⟩:=hF.get ah;cases e8;obtain⟨p,q⟩:∃p:Nat,(aH E c0).up=(p:Int):=⟨(aH E c0).up.toNat,by omega⟩;obtain⟨y,hy,aj⟩:=TE hO (k:=p) (by omega);have aq:opN R p=y:=by unfold opN;rw[hy];rfl
      have ap:p<E.length:=by omega
      rw[q,aG,aq,ak]at hr;rw[ak]at q;obtain⟨tc,upc,kidc,fnc,numc,lastc⟩:=ec;dsimp only at hr q ad;subst q;by_cases ai:y=(a:Int)
      ·rw[if_neg (by rintro(h|h);omega;exact h ai)]at hr;try repeat' (first|refine KO ?_|refine K2 54 j ?_|refine K2 55 f ?_|refine KZ ?_|refine NB fun b=>?_|(refine KB ?_ ?_<;>intro q))
       all_goals
        refine aZ 21 _ (by kernel_rfl) rfl (cP (aD aT)) ?_;all_goals(refine DD 0 ?_;refine DD 1 ?_;refine D2 2 rfl (by exact U1 x) ?_;refine DD 3 ?_;refine D2 4 rfl (by exact U4 aa) ?_;refine D1 5 ?_;refine DD 6 ?_;refine DD 7 ?_;refine D2 8 rfl (by exact U1 a) ?_;refine DD 9 ?_;refine D2 10 rfl (by exact U4 o) ?_;refine D1 11 ?_;refine DD 12 ?_)
        all_goals(try(refine D7 13 ?_;(repeat' (refine KO ?_))))
        all_goals(refine DD 13 ?_;refine DD 14 ?_;refine DD 15 ?_;refine D2 16 rfl (by exact U1 d0) ?_;refine DD 17 ?_;refine D2 18 rfl (by exact U4 v) ?_;refine D1 19 ?_;refine DD 20 ?_;refine D8 ?_)
        all_goals try repeat' (first|refine KO ?_|refine K2 56 g ?_|refine K2 57 ab ?_|refine KZ ?_)
        all_goals
         refine aZ 15 _ (by kernel_rfl) rfl (cP (aD aT)) ?_;all_goals(refine DD 0 ?_;refine D1 1 ?_;refine DD 2 ?_)
         all_goals(try(refine D7 3 ?_;(repeat' (refine KO ?_))))
         all_goals(refine D1 3 ?_;refine DD 4 ?_;refine DD 5 ?_;refine DD 6 ?_;refine D2 7 rfl (by exact U1 c0) ?_;refine DD 8 ?_;refine D2 9 rfl (by exact U4 ad) ?_;refine D2 10 rfl (by exact U1 p) ?_;refine D2 11 rfl (by exact U3 (aj.at 0 rfl)) ?_;refine DD 12 ?_;refine D1 13 ?_;refine DD 14 ?_;refine D8 ?_)
         all_goals try repeat' (first|refine KO ?_|(refine KV (b:=by first|exact U1 c0|exact U4 ad) (c:=?_))|refine KZ ?_)
         all_goals exact aQ rfl rfl (congrArg _ (by rw[←hr];exact decide_eq_decide.2 (by omega)))
      ·rw[if_pos (.inr ai)]at hr;subst hr;try repeat' (first|refine KO ?_|refine K2 54 j ?_|refine K2 55 f ?_|refine KZ ?_|refine NB fun b=>?_|(refine KB ?_ ?_<;>intro q))
       all_goals
        refine aZ 21 _ (by kernel_rfl) rfl (cP (aD aT)) ?_;all_goals(refine DD 0 ?_;refine DD 1 ?_;refine D2 2 rfl (by exact U1 x) ?_;refine DD 3 ?_;refine D2 4 rfl (by exact U4 aa) ?_;refine D1 5 ?_;refine DD 6 ?_;refine DD 7 ?_;refine D2 8 rfl (by exact U1 a) ?_;refine DD 9 ?_;refine D2 10 rfl (by exact U4 o) ?_;refine D1 11 ?_;refine DD 12 ?_)
        all_goals(try(refine D7 13 ?_;(repeat' (refine KO ?_))))
        all_goals(refine DD 13 ?_;refine DD 14 ?_;refine DD 15 ?_;refine D2 16 rfl (by exact U1 d0) ?_;refine DD 17 ?_;refine D2 18 rfl (by exact U4 v) ?_;refine D1 19 ?_;refine DD 20 ?_;refine D8 ?_)
        all_goals try repeat' (first|refine KO ?_|refine K2 56 g ?_|refine K2 57 ab ?_|refine KZ ?_)
        all_goals
         refine aZ 15 _ (by kernel_rfl) rfl (cP (aD aT)) ?_;all_goals(refine DD 0 ?_;refine D1 1 ?_;refine DD 2 ?_)
         all_goals(try(refine D7 3 ?_;(repeat' (refine KO ?_))))
         all_goals(refine D1 3 ?_;refine DD 4 ?_;refine DD 5 ?_;refine DD 6 ?_;refine D2 7 rfl (by exact U1 c0) ?_;refine DD 8 ?_;refine D2 9 rfl (by exact U4 ad) ?_;refine D2 10 rfl (by exact U1 p) ?_;refine D2 11 rfl (by exact U3 (aj.at 0 rfl)) ?_;refine DD 12 ?_;refine D1 13 ?_;refine DD 14 ?_;refine D8 ?_)
         all_goals try repeat' (refine KZ ?_)
         all_goals exact aQ rfl rfl rfl
end
section
open Go.RowKit Go.Vcg Go.MapKept
theorem aGy{l l' :List Sc}(h:mJ l l'){a:Nat}(e:a<l.length):oB l' a=oB l a:=by
 obtain⟨c,hc⟩:∃c,l[a]? =some c:=⟨_,aA e⟩;obtain⟨c',b⟩:∃c',l'[a]? =some c' :=⟨_,aA (by rw[←h.1];exact e)⟩;unfold oB;rw[hc,b];exact(h.2 a c c' hc b).2.1
theorem aQo(E:List Fl)(x:Nat):(usN E x).length≤x:=by
 have:=List.length_filter_le (mR E) (List.range x);rw[List.length_range]at this;exact this
theorem Gw.pos{E:List Fl}{R:RS}(G:Gw E R)(i:Nat)(h:(aH E i).t.op=3∨(i<E.length∧(aH E i).t.op=22)):0≤(aH E i).up:=by
 have hl:i<E.length:=by
  rcases h with h|h
  ·refine Decidable.byContradiction fun hn=>?_;unfold aH at h;rw[dQ (by omega)]at h;exact absurd h (by decide)
  ·exact h.1
 rcases Nat.eq_zero_or_pos i with rfl|h0
 ·rw[G.fw.root.1]at h;omega
 ·exact(G.fw.ups i h0 hl).1
def sP(t:T)(μ:Mem)(v:Value):Prop:=(4096<fQ (wL t)∧v=.tuple #[.slice none 0 0,.int .i64 9])∨(¬4096<fQ (wL t)∧∃r,v=.tuple #[r,.int .i64 0]∧UsV μ ((usN (eO t) t.size).map (uK (eO t) (fS (eO t) t.size) (wL t))) r)
attribute [local irreducible] fQ wL eO rtB foldI bI usN uK mR aH wM mH iN fS xK
attribute [local irreducible] jY dT eM bF dR dM anI jK iB G GC GQ GA eV Calls IntKind.wrap Int.decLt Int.decLe
theorem aAy(t:T)(u:Value)(w:World)(μ:Mem)(hμ:MOk μ w)(hk:KR μ t.kids u)(bj:t.size≤2000)(bm:Sh t)(az:t.op=1)(al:rtB t 1 false=true){g:Nat}(P:Gp (eO t) (fS (eO t) t.size) t g)(b4:Uq (eO t) (fS (eO t) t.size)):
 Calls Tryz.prog 11 #[.agg (cO t u).toArray] w fun e w' =>∃v μ',e=.returned v∧vI w w' μ μ' ∧sP t μ' v:=by
 have ou:=hk.one;have a8:=fun w μc hw (hle:MLe μ μc)=>zI t u w μc hw (hk.mono hle) (by omega) bm;rw[al]at a8;have bq:=fun(w:World) (hw:MOk μ w)=>aF6 t u w μ hw (by omega) hk;have au:=aKn (iL al) bj;have hlen:=xG t;have ch:=aS t;obtain⟨hL,hU,-⟩:=run_eq az al t.size (aC _);obtain⟨b8,b3⟩:=EE t.size t bj (aC _) (xO t 1 false (iL al) bm);have ar:=zC (gS t.size t);have bn:∀c∈(foldI (bI (eO t)) 0 t.size kO).L,c.names.length≤10000000:=fun c hc=>by rw[hL]at hc;obtain⟨k,hk⟩:=List.mem_iff_getElem?.1 hc;obtain⟨y,hy⟩:∃y,(qZ (gS t.size t))[k]? =some y:=⟨_,aA (by rw[←ar.1];exact(List.getElem?_eq_some_iff.1 hk).1)⟩;have h8:=congrArg List.length (ar.2 k c y hk hy).2.2;rw[aO,aO]at h8;rw[←h8];exact b3 y (by show y∈qZ (gS t.size t);exact aB hy)
 have ai:wL t=qY [] (xD (foldI (bI (eO t)) 0 t.size kO).us (foldI (bI (eO t)) 0 t.size kO).L):=by unfold wL;rfl
 have ak:mJ (fS (eO t) t.size).L (wL t):=by rw[aK6 az al t.size (aC _),show(fS (eO t) t.size).L=(foldI (bI (eO t)) 0 t.size kO).L by unfold fS;rfl,hL];exact ar
 have a6:=fun(μc:Mem) (fv:Value) (es:List (Fl×Value)) (hF:FLs μc (eO t) fv es) (w:World) (hw:MOk μc w)=>by have:=aFm (eO t) fv es μc hF au (by omega) (by rw[hlen];exact bn) w hw;rw[hlen,show foldI (bI (eO t)) 0 t.size kO=fS (eO t) t.size by unfold fS;rfl]at this;exact this
 rw[show foldI (bI (eO t)) 0 t.size kO=fS (eO t) t.size by unfold fS;rfl]at ai;clear bn b8 b3 ar hL hU;refine aF Tryz.func11 rfl Tryz.ntmps11 (by simp) hμ ?_;try repeat' (first|refine KO ?_|refine K2 9 a8 ?_|refine KZ ?_|((with_reducible apply F2 26);exact rfl;exact EN;exact fun w hw=>bq w hw;rintro v1 μ1 cg ⟨es,hF⟩)|((with_reducible apply F2 27);exact rfl;exact EN;exact fun w hw=>a6 _ _ _ hF w hw;rintro v2 μ2 br ⟨A,c,ps,ib,ob,rfl,hS,a7,hI,hO⟩)|refine NB fun b=>?_)
 obtain⟨bt,b2⟩:∃x,x=b:=⟨_,rfl⟩;rw[←b2];clear b2;have aj:=fun w μc hw (hle:MLe μ2 μc)=>aA1 ps A c w μc hw (hS.mono hle);rw[a7,←ai]at aj;by_cases hn:4096<fQ (wL t)
 ·rw[decide_eq_true hn]at aj;try repeat' (first|refine KO ?_|refine K2 28 aj ?_)
  exact HJ rfl (cX rfl) (cX rfl) (fun μ' _ _=>.inl ⟨hn,rfl⟩)
 rw[decide_eq_false hn]at aj;try repeat' (first|refine KO ?_|refine K2 28 aj ?_)
 have ax:=hF.mono br;have hG:=P.gw;have q:scs ps=wL t:=by rw[a7,ai]
 have a1:∀{x a b:Nat} {y:ByteArray},x< (eO t).length→iD (fS (eO t) t.size).L (inN (fS (eO t) t.size) x) y=some (a,b)→(fD (fS (eO t) t.size).L a b=1∨fD (fS (eO t) t.size).L a b=2)→∃d:Nat,xK (eO t) (fS (eO t) t.size) a y=(d:Int)∧d< (eO t).length:=fun hx hf hk=>by obtain⟨o,d,-,-,-,h1,h2⟩:=aBp P hx hf hk;exact⟨d,aEq b4 h1 h2 hk,h1.lt⟩
 clear aj a8 bq a6 ai a7 P b4;have an:∀(μ' :Mem) (r:Value),UsV μ' ((usN (eO t) (eO t).length).map (uK (eO t) (fS (eO t) t.size) (wL t))) r→sP t μ' (.tuple #[r,.int .i64 0]):=fun μ' r h=>.inr ⟨hn,r,rfl,by rw[hlen]at h;exact h⟩;generalize sP t=Post at an⊢;have cs:=au.len;obtain⟨A0,cA,rfl⟩:=ax.form;have b6:(fS (eO t) t.size).L.length=ps.length:=by rw[ak.1,←q,kV]
 have ay:∀i,i< (eO t).length→(fS (eO t) i).L.length≤ps.length:=fun i hi=>by rw[←b6,←hlen];exact hG.zV (iO hi)
 have bu:=fun i hi=>Int.lt_of_lt_of_le (hG.NH i hi) (Int.ofNat_le.2 (ay i hi));clear ay;generalize ct:eO t=E at*;generalize cq:fS E t.size=Rn at*;generalize cr:wL t=LE at*;have bk:∀i,(usN E (i+1)).map (uK E Rn LE)=(usN E i).map (uK E Rn LE)++(if mR E i=true then[uK E Rn LE i]else[]):=fun i=>by rw[LI,bJ];split<;>rfl
 have bi:=aQo E;refine oN 33 8 ?_;refine cD (ι:=Nat×Value) (fun j=>j.1≤E.length) (fun j=>E.length-j.1) (fun _=>μ2) (fun j=>[(4,.slice A0 E.length cA),(5,.pointer (some ⟨bt,0,none⟩)),(6,j.2),(7,.int .i64 (j.1:Int))]) (fun j=>[.inr ⟨j.2,33,8,((usN E j.1).map (uK E Rn LE)).length,((usN E j.1).map (uK E Rn LE)).flatMap HZ⟩,.inl ⟨bt,73,3,[(0,.slice A ps.length c),(1,.slice (some ⟨ib,0,none⟩) E.length E.length),(2,.slice (some ⟨ob,0,none⟩) E.length E.length)]⟩]) (0,.slice none 0 0) (aN _) (fun a w hs=>hs.sel PU (by
  have h0:(usN E 0).map (uK E Rn LE)=[]:=by unfold usN;rfl
  dsimp only;rw[h0];exact fA (.refl _) (fA (.cells PU) (.nil _)))) ?_
 rintro⟨i,v⟩ hi;dsimp only at hi⊢;have f:=bk i;have bc:((usN E i).map (uK E Rn LE)).length≤2000:=by rw[aO];have:=bi i;omega
 by_cases hlt:i<E.length
 ·obtain⟨adA,e,ue,rfl,cn,bx,ae,cj,cm⟩:=ax.get hlt;have aa:=fun w μc hw (hle:MLe μ2 μc)=>QH E (.slice (some adA) E.length cA) es i μc (ax.mono hle) au hlt w hw;obtain⟨z,hz,ag⟩:=TE hI hlt;have hin:inN Rn i=z:=by unfold inN;rw[hz];rfl
  have bh:=bu i hlt;rw[hin]at bh;cases hu:mR E i with
  | false=>
    rw[hu]at aa;rw[hu,if_neg (by decide),eD]at f;generalize (usN E i).map (uK E Rn LE)=acc at f bc⊢;try repeat' (first|refine KO ?_|refine K2 29 aa ?_|refine KZ ?_)
    all_goals exact cY (i+1,_) (by dsimp only;omega) (by dsimp only;omega) rfl PU (by dsimp only;rw[f];exact fH _)
  | true=>
    rw[hu]at aa;rw[hu,if_pos rfl]at f;have l:=fun w μc hw (hle:MLe μ2 μc)=>MB w μc hw ps A c (hS.mono hle) z (aH E i).t.s;rw[q,show findF LE (aH E i).t.s (z.toNat+1) z=iD LE z (aH E i).t.s from rfl]at l;have aq:uK E Rn LE i=uK E Rn LE i:=rfl
    conv at aq=>rhs;unfold uK
    have ah:=xE ak (inN Rn i) (aH E i).t.s;have ad:=fun a b=>a1 (x:=i) (a:=a) (b:=b) (y:=(aH E i).t.s) hlt;rw[←ah]at ad;rw[hin]at aq ad;rw[aq]at f;clear aq ah;cases hf:iD LE z (aH E i).t.s with
    | none=>
      rw[hf]at f l;rw[bx]at f l;obtain⟨t9,up,kid,fn,num,last⟩:=e;dsimp only[yV]at f l ae;generalize (usN E i).map (uK E Rn LE)=acc at f bc⊢;try repeat' (first|refine KO ?_|refine K2 29 aa ?_)
      refine aZ 20 _ (by kernel_rfl) rfl (cP (aD aT)) ?_;all_goals(refine D1 0 ?_;refine D1 1 ?_;refine D2 2 rfl (by exact U1 i) ?_;refine DD 3 ?_;refine DD 4 ?_;refine D2 5 rfl (by exact U4 ae) ?_;refine D1 6 ?_;refine DD 7 ?_;refine D1 8 ?_;refine D2 9 rfl (by exact U1 i) ?_;refine D2 10 rfl (by exact U3 (ag.at 0 rfl)) ?_;refine D1 11 ?_;refine D1 12 ?_;refine D2 13 rfl (by exact U1 i) ?_;refine DD 14 ?_;refine DD 15 ?_;refine D2 16 rfl (by exact U4 ae) ?_;refine D1 17 ?_;refine D3 18 ?_;refine D5 ?_;refine NB fun b=>?_;refine D9 ?_;refine D3 19 ?_;refine D5 ?_;refine Y0 ?_;refine D9 ?_;refine D8 ?_)
      try repeat' (refine KZ ?_)
      refine aZ 17 _ (by kernel_rfl) rfl (aD (cP (aD aT))) ?_;all_goals(refine D1 0 ?_;refine DD 1 ?_;refine D1 2 ?_;refine DD 3 ?_;refine DD 4 ?_;refine D2 5 rfl (by exact U1 i) ?_;refine D2 6 rfl (by exact U3 (ag.at 0 rfl)) ?_;refine D1 7 ?_;refine DD 8 ?_;refine D3 9 ?_;refine D5 ?_;refine K2 30 l ?_;refine D9 ?_;refine DD 10 ?_;refine DD 11 ?_;refine DD 12 ?_;refine DD 13 ?_;refine DD 14 ?_;refine DD 15 ?_;refine DD 16 ?_;refine D8 ?_)
      all_goals try repeat' (first|refine KZ ?_|(((with_reducible apply qA);(iterate 3 exact rfl);(repeat first|with_reducible exact fO|with_reducible apply gD);(iterate 6 exact rfl);(((with_reducible apply kB);exact rfl;(repeat with_reducible exact fW);exact rfl));exact rfl;exact gI (by(repeat first|with_reducible exact fZ|((with_reducible apply eW);exact rfl)));omega;omega;intro v))|refine NB fun b=>?_)
      all_goals refine gO (L' :=[_,_]) (tB (.refl _) (tB (.refl _) (.nil _))) ?_
      all_goals refine gJ (n' :=(acc++[(⟨t9.at',z,2,0,0,0,t9.s,false⟩:Us)]).length) (xs' :=(acc++[(⟨t9.at',z,2,0,0,0,t9.s,false⟩:Us)]).flatMap HZ) 0 rfl (by simp) (by simp) ?_
      all_goals exact cY (i+1,_) (by dsimp only;omega) (by dsimp only;omega) rfl PU (by dsimp only;rw[f];exact fH _)
    | some ab=>
      obtain⟨a,k⟩:=ab;rw[hf]at f l;have av:=hf;unfold iD at av;have b1:=tK av;obtain⟨c9,d9,aw,bd,ao,-⟩:=mD av;have bf:sN LE a k=d9:=by unfold sN;rw[aw];simp[bd]
      have bg:a<ps.length:=by rw[←kV,q];exact(List.getElem?_eq_some_iff.1 aw).1
      have bs:d9.kind=fD Rn.L a k:=by rw[←bf];exact SL ak (p:=z) (y:=(aH E i).t.s) (by rw[←hf,←hin];exact(xE ak _ _).symm)
      have bb:=ad a k hf;rw[←bs]at bb;have bw:oB (scs ps) a=oB Rn.L a:=by rw[q];exact aGy ak (by rw[b6];exact bg)
      have ap:=fun w μc hw (hle:MLe μ2 μc)=>aA3 w μc hw A c ps (hS.mono hle) z a (by rw[q];exact b1) bh;have af:=fun w μc hw (hle:MLe μ2 μc)=>WT E Rn hG (.slice (some adA) E.length cA) es i a d9 A c ib ob ps μc (ax.mono hle) au (hS.mono hle) (hI.mono hle) (hO.mono hle) hlt bg bw hG.pos (fun h=>by rw[ao];exact bb h) w hw;rw[q]at ap;dsimp only at f;rw[bf]at f;obtain⟨b9,cp,ca⟩:=hS;rw[←q]at aw;obtain⟨ads,cy,rfl,b0,bp⟩:=b9.get bg;obtain⟨cc,v9⟩:=cy;obtain rfl:cc=c9:=by have h9:=mE b0;rw[aw]at h9;cases h9;rfl
      obtain⟨A4,c4,e4,b5,cl,-⟩:=ca _ (aB b0);dsimp only at e4 b5;subst e4;have b7:k<cc.names.length:=(List.getElem?_eq_some_iff.1 bd).1;obtain⟨adb,dd,rfl,bz,ba⟩:=b5.get b7;rw[bd]at bz;cases bz;obtain⟨nm,kd,hd,sl⟩:=d9;dsimp only at ao;subst ao;rw[bx]at f l af ba;obtain⟨t9,up,kid,fn,num,last⟩:=e;dsimp only[yV]at f l ae af;generalize (usN E i).map (uK E Rn LE)=acc at f bc⊢;generalize wM E Rn i a t9.s kd=ck at f af;generalize mH LE (z.toNat+1) z (a:Int)=bo at f ap;clear ad bb a1 bs bf hf av b1;cases hd with
      | false=>
        rw[if_neg (by decide)]at f;try repeat' (first|refine KO ?_|refine K2 29 aa ?_)
        refine aZ 20 _ (by kernel_rfl) rfl (cP (aD aT)) ?_;all_goals(refine D1 0 ?_;refine D1 1 ?_;refine D2 2 rfl (by exact U1 i) ?_;refine DD 3 ?_;refine DD 4 ?_;refine D2 5 rfl (by exact U4 ae) ?_;refine D1 6 ?_;refine DD 7 ?_;refine D1 8 ?_;refine D2 9 rfl (by exact U1 i) ?_;refine D2 10 rfl (by exact U3 (ag.at 0 rfl)) ?_;refine D1 11 ?_;refine D1 12 ?_;refine D2 13 rfl (by exact U1 i) ?_;refine DD 14 ?_;refine DD 15 ?_;refine D2 16 rfl (by exact U4 ae) ?_;refine D1 17 ?_;refine D3 18 ?_;refine D5 ?_;refine NB fun b=>?_;refine D9 ?_;refine D3 19 ?_;refine D5 ?_;refine Y0 ?_;refine D9 ?_;refine D8 ?_)
        try repeat' (refine KZ ?_)
        refine aZ 17 _ (by kernel_rfl) rfl (aD (cP (aD aT))) ?_;all_goals(refine D1 0 ?_;refine DD 1 ?_;refine D1 2 ?_;refine DD 3 ?_;refine DD 4 ?_;refine D2 5 rfl (by exact U1 i) ?_;refine D2 6 rfl (by exact U3 (ag.at 0 rfl)) ?_;refine D1 7 ?_;refine DD 8 ?_;refine D3 9 ?_;refine D5 ?_;refine K2 30 l ?_;refine D9 ?_;refine DD 10 ?_;refine DD 11 ?_;refine DD 12 ?_;refine DD 13 ?_;refine DD 14 ?_;refine DD 15 ?_;refine DD 16 ?_;refine D8 ?_)
        all_goals try repeat' (first|refine KO ?_|(((with_reducible apply qA);(iterate 3 exact rfl);(repeat first|with_reducible exact fO|with_reducible apply gD);(iterate 6 exact rfl);(((with_reducible apply kB);exact rfl;(repeat with_reducible exact fW);exact rfl));(exact rfl);((exact gI (by(repeat first|with_reducible exact fZ|((with_reducible apply eW);(exact rfl))))));omega;omega;intro v))|refine K2 31 af ?_|(refine KV (b:=by first|exact U1 a|exact U1 k|exact U4 bp|exact U4 ba) (c:=?_))|refine KZ ?_|refine NB fun b=>?_)
        all_goals refine gO (L' :=[_,_]) (CM (.refl _) (CM (.refl _) (.nil _))) ?_
        all_goals refine gJ (n' :=(acc++[(⟨t9.at',z,0,0,sl,kd,t9.s,ck⟩:Us)]).length) (xs' :=(acc++[(⟨t9.at',z,0,0,sl,kd,t9.s,ck⟩:Us)]).flatMap HZ) 0 rfl (by simp) (by simp) ?_
        all_goals exact cY (i+1,_) (by dsimp only;omega) (by dsimp only;omega) rfl PU (by dsimp only;rw[f];exact fH _)
      | true=>
        rw[if_pos rfl]at f;try repeat' (first|refine KO ?_|refine K2 29 aa ?_)
        refine aZ 20 _ (by kernel_rfl) rfl (cP (aD aT)) ?_;all_goals(refine D1 0 ?_;refine D1 1 ?_;refine D2 2 rfl (by exact U1 i) ?_;refine DD 3 ?_;refine DD 4 ?_;refine D2 5 rfl (by exact U4 ae) ?_;refine D1 6 ?_;refine DD 7 ?_;refine D1 8 ?_;refine D2 9 rfl (by exact U1 i) ?_;refine D2 10 rfl (by exact U3 (ag.at 0 rfl)) ?_;refine D1 11 ?_;refine D1 12 ?_;refine D2 13 rfl (by exact U1 i) ?_;refine DD 14 ?_;refine DD 15 ?_;refine D2 16 rfl (by exact U4 ae) ?_;refine D1 17 ?_;refine D3 18 ?_;refine D5 ?_;refine NB fun b=>?_;refine D9 ?_;refine D3 19 ?_;refine D5 ?_;refine Y0 ?_;refine D9 ?_;refine D8 ?_)
        try repeat' (refine KZ ?_)
        refine aZ 17 _ (by kernel_rfl) rfl (aD (cP (aD aT))) ?_;all_goals(refine D1 0 ?_;refine DD 1 ?_;refine D1 2 ?_;refine DD 3 ?_;refine DD 4 ?_;refine D2 5 rfl (by exact U1 i) ?_;refine D2 6 rfl (by exact U3 (ag.at 0 rfl)) ?_;refine D1 7 ?_;refine DD 8 ?_;refine D3 9 ?_;refine D5 ?_;refine K2 30 l ?_;refine D9 ?_;refine DD 10 ?_;refine DD 11 ?_;refine DD 12 ?_;refine DD 13 ?_;refine DD 14 ?_;refine DD 15 ?_;refine DD 16 ?_;refine D8 ?_)
        all_goals try repeat' (first|refine KO ?_|refine K2 31 af ?_|(refine KV (b:=by first|exact U1 a|exact U1 k|exact U4 bp|exact U4 ba) (c:=?_))|refine KZ ?_|refine NB fun b=>?_)
        all_goals
         refine aZ 11 _ (by kernel_rfl) rfl (cP (cP (cP (aD aT)))) ?_;all_goals(refine D1 0 ?_;refine DD 1 ?_;refine D1 2 ?_;refine DD 3 ?_;refine D1 4 ?_;refine D2 5 rfl (by exact U1 i) ?_;refine D2 6 rfl (by exact U3 (ag.at 0 rfl)) ?_;refine D1 7 ?_;refine D3 8 ?_;refine D5 ?_;refine K2 32 ap ?_;refine D9 ?_;refine D1 9 ?_;refine D3 10 ?_;refine D5 ?_;refine Y0 ?_;refine D9 ?_;refine D8 ?_)
         all_goals try repeat' (first|refine KZ ?_|(((with_reducible apply qA);(iterate 3 exact rfl);(repeat first|with_reducible exact fO|with_reducible apply gD);(iterate 6 exact rfl);(((with_reducible apply kB);exact rfl;(repeat with_reducible exact fW);exact rfl));exact rfl;exact gI (by(repeat first|with_reducible exact fZ|((with_reducible apply eW);exact rfl)));omega;omega;intro v))|refine NB fun b=>?_)
         all_goals refine gO (L' :=[_,_]) (CM (.refl _) (CM (.refl _) (.nil _))) ?_
         all_goals refine gJ (n' :=(acc++[(⟨t9.at',z,1,(bo:Int),sl,kd,t9.s,ck⟩:Us)]).length) (xs' :=(acc++[(⟨t9.at',z,1,(bo:Int),sl,kd,t9.s,ck⟩:Us)]).flatMap HZ) 0 rfl (by simp) (by simp) ?_
         all_goals exact cY (i+1,_) (by dsimp only;omega) (by dsimp only;omega) rfl PU (by dsimp only;rw[f];exact fH _)
 ·obtain rfl:i=E.length:=by omega
  try repeat' (refine KZ ?_)
  refine HJ rfl (cX rfl) (cX rfl) (fun μ' cf cd=>an μ' _ ?_);obtain⟨A9,c9,e9,cb⟩:=tM (enc:=HZ) (xs:=(usN E E.length).map (uK E Rn LE)) (cd _ (aE ..)) rfl (by simp) rfl;exact⟨A9,c9,e9,cb⟩
end
section
open Go.RowKit Go.Vcg Go.MapKept
theorem aE9(t:T)(u:Value)(w:World)(μ:Mem)(hμ:MOk μ w)(hk:KR μ t.kids u)(a:t.size≤2000)(c:Sh t)(e:sO μ)(h:t.op≠1∨rtB t 1 false=false):
 bC 8 #[.agg (cO t u).toArray] w (.tuple #[.slice none 0 0,.int .i64 1]):=by
 have ou:=hk.one;have hf:=fun w μc hw (hle:MLe μ μc)=>aKo t u w μc hw (hk.mono hle) a c (e.mono hle) h;refine aF Tryz.func8 rfl Tryz.ntmps8 (by simp) hμ ?_;try repeat' (first|refine KO ?_|refine K2 21 hf ?_|refine KZ ?_|refine NB fun b=>?_)
 all_goals exact wG rfl (cX rfl) (cX rfl) rfl rfl
theorem aMj{f:Nat}{t:T}{μ:Mem}{v:Value}(h:pK f t μ v):∃(A:Option Addr) (n c:Nat) (e:Int),v=.tuple #[.slice A n c,.int .i64 e]:=by
 rcases h with⟨-,rfl⟩|⟨-,r,rfl,A,c,rfl,-⟩
 ·exact⟨_,_,_,_,rfl⟩
 ·exact⟨_,_,_,_,rfl⟩
theorem aTm{f:Nat}{t:T}{μ:Mem}{v:Value}(h:pK f t μ v)(hn:4096<fQ (gS f t).scopes):v=.tuple #[.slice none 0 0,.int .i64 9]:=by
 rcases h with h|h
 ·exact h.2
 ·exact absurd hn h.1
theorem aQp{f:Nat}{t:T}{μ:Mem}{v:Value}(h:pK f t μ v)(hn:¬4096<fQ (gS f t).scopes):∃A c,v=.tuple #[.slice A ((gS f t).uses.map (tO (qZ (gS f t)))).length c,.int .i64 0]∧Sl HZ 8 μ A ((gS f t).uses.map (tO (qZ (gS f t)))).length ((gS f t).uses.map (tO (qZ (gS f t)))):=by
 rcases h with h|h
 ·exact absurd h.1 hn
 ·obtain⟨r,rfl,A,c,rfl,a⟩:=h.2;exact⟨A,c,rfl,a⟩
theorem aTr{t:T}{μ:Mem}{v:Value}(h:sP t μ v)(hn:4096<fQ (wL t)):v=.tuple #[.slice none 0 0,.int .i64 9]:=by
 rcases h with h|h
 ·exact h.2
 ·exact absurd hn h.1
theorem aQ7{t:T}{μ:Mem}{v:Value}{l:List Us}(h:sP t μ v)(hn:¬4096<fQ (wL t))(hl:l=(usN (eO t) t.size).map (uK (eO t) (fS (eO t) t.size) (wL t))):∃A c,v=.tuple #[.slice A l.length c,.int .i64 0]∧Sl HZ 8 μ A l.length l:=by
 rcases h with h|h
 ·exact absurd h.1 hn
 ·obtain⟨r,rfl,A,c,rfl,a⟩:=h.2;exact⟨A,c,by rw[hl],by rw[hl];exact a⟩
attribute [local irreducible] qZ wL gS rtB pK sP aBm fQ usN uK tO fS eO
attribute [local irreducible] jY dT eM bF dR dM anI jK iB G GC GQ GA eV Calls IntKind.wrap Int.decLt Int.decLe
theorem aE6(t:T)(v:Value)(w:World)(μ:Mem)(hμ:MOk μ w)(hm:vN μ)(hT:sO μ)(ht:TV μ t v)(hr:Ri t):
 bC 3 #[v] w (.bool true):=by
 obtain⟨u,rfl,hk⟩:=ht;have ho:=hk.one;refine aF Tryz.func3 rfl Tryz.ntmps3 (by simp) hμ ?_;try repeat' (first|((with_reducible show GC _ _ (Code.seq (Code.region 4 _ _) _) _ _ _ _);(apply dX))|refine KO ?_|refine K2 6 (fun w μc hw i=>YA w μc hw (hT.mono i)) ?_|refine KZ ?_|((with_reducible apply F2 7);exact rfl;exact EN;exact fun w hw=>aG3 t _ w _ hw ⟨_,rfl,hk⟩;rintro v2 μ2 ai ⟨t2,⟨u2,rfl,aa⟩,a6,aq⟩;have a7:=aa.one)|refine NB fun b=>?_)
 have q:=aq hr;have hT:=hT.mono ai;have hm:=hm.mono ai;refine gcs ?_;have r:=fun w μc hw (hle:MLe μ2 μc)=>zI t2 u2 w μc hw (aa.mono hle) (by omega) q;by_cases ae:t2.op=1∧rtB t2 1 false=true
 rotate_left
 ·have au:t2.op≠1∨rtB t2 1 false=false:=by
   by_cases h1:t2.op=1
   ·right;cases h:rtB t2 1 false with
    |false=>rfl
    |true=>exact absurd ⟨h1,h⟩ ae
   ·exact .inl h1
  have z:=fun w μc hw (hle:MLe μ2 μc)=>aE9 t2 u2 w μc hw (aa.mono hle) (by omega) q (hT.mono hle) au;by_cases h1:t2.op=1
  ·rw[au.resolve_left (fun h=>h h1)]at r;try repeat' (first|refine KO ?_|refine K2 8 z ?_|refine K2 9 r ?_|refine KZ ?_)
   all_goals exact aQ rfl rfl rfl
  ·try repeat' (first|refine KO ?_|refine K2 8 z ?_|refine KZ ?_)
   all_goals exact aQ rfl rfl rfl
 obtain⟨x,o⟩:=ae;rw[o]at r;have ad:=fun w μc hw (hle:MLe μ2 μc)=>aF5 t2 u2 w μc hw (aa.mono hle) (by omega) q (hT.mono hle) (hm.mono hle);have z:=fun w μc hw (hle:MLe μ2 μc)=>LK 2000 t2 u2 w μc hw (aa.mono hle) (by omega) (by omega) q (hT.mono hle) x o;have af:=aK6 x o 2000 (by omega);have hne:fQ (wL t2)=fQ (gS 2000 t2).scopes:=by rw[af];exact XT (zC _)
 cases j:aBm t2 with
 | false=>
   rw[j]at ad;try repeat' (first|refine KO ?_|refine K2 9 (fun w μc hw i=>r w μc hw (f.trans i)) ?_|refine K2 10 (fun w μc hw i=>ad w μc hw (f.trans i)) ?_|refine KZ ?_|((with_reducible apply F2 8);exact rfl;exact EN;exact fun w hw=>z w _ hw (MLe.refl _);rintro v3 μ3 f ab;obtain⟨A,n3,c,e3,rfl⟩:=aMj ab))
   all_goals exact aQ rfl rfl rfl
 |true=>
 rw[j]at ad;have an:(yK wdF 1600 t2).e=0:=by unfold aBm at j;rw[aM,aM,decide_eq_true_eq,decide_eq_true_eq]at j;have:=j.2;unfold EH at this;rw[if_pos ⟨x,o⟩]at this;exact this
 have hP:=aJ1 x o 1600 (by omega);have av:=aPn hP an;have p:=aHy x o 2000 (by omega) (g:=1600) (by omega) an;rw[←af]at p;have ar:=fun w μc hw (hle:MLe μ2 μc)=>aAy t2 u2 w μc hw (aa.mono hle) (by omega) q x o hP av;by_cases hn:4096<fQ (gS 2000 t2).scopes
 ·have al:4096<fQ (wL t2):=by rw[hne];exact hn
  try repeat' (first|refine KO ?_|refine K2 9 (fun w μc hw i=>r w μc hw (f.trans i)) ?_|refine K2 10 (fun w μc hw i=>ad w μc hw (f.trans i)) ?_|refine KZ ?_|((with_reducible apply F2 8);exact rfl;exact EN;exact fun w hw=>z w _ hw (MLe.refl _);rintro v3 μ3 f ab;obtain rfl:=aTm ab hn)|((with_reducible apply F2 11);exact rfl;exact EN;exact fun w hw=>ar w _ hw f;rintro v4 μ4 ah ak;obtain rfl:=aTr ak al))
  refine cD (ι:=Unit) (fun _=>True) (fun _=>0) (fun _=>μ4) (fun _=>[(3,.slice none 0 0),(7,.int .i64 0)]) (fun _=>[]) () trivial (fun a w hs=>J5 hs) ?_;rintro⟨⟩-;try repeat' (refine KZ ?_)
  all_goals exact aQ rfl rfl rfl
 ·have al:¬4096<fQ (wL t2):=by rw[hne];exact hn
  rw[af]at p;obtain⟨us,aj⟩:∃us,(gS 2000 t2).uses.map (tO (qZ (gS 2000 t2)))=us:=⟨_,rfl⟩;have ap:=fun{μ:Mem} {v:Value} (h:pK 2000 t2 μ v)=>aQp h hn;rw[aj]at p ap;have aw:=fun{μ:Mem} {v:Value} (h:sP t2 μ v)=>aQ7 h al (l:=us) (by rw[af];exact p);have a1:us.length≤9000:=by rw[←aj,aO];exact LH 2000 t2 (by omega) (by omega) (xO t2 1 false (iL o) q)
  clear p aj hP av af hne an j;try repeat' (first|refine KO ?_|refine K2 9 (fun w μc hw i=>r w μc hw (f.trans i)) ?_|refine K2 10 (fun w μc hw i=>ad w μc hw (f.trans i)) ?_|refine KZ ?_|((with_reducible apply F2 8);exact rfl;exact EN;exact fun w hw=>z w _ hw (MLe.refl _);rintro v3 μ3 f ab;obtain⟨A3,c3,rfl,ao⟩:=ap ab)|((with_reducible apply F2 11);exact rfl;exact EN;exact fun w hw=>ar w _ hw f;rintro v4 μ4 ah ak;obtain⟨A4,c4,rfl,az⟩:=aw ak))
  have ao:=ao.mono ah;refine cD (ι:=Nat) (fun k=>k≤us.length) (fun k=>us.length-k) (fun _=>μ4) (fun k=>[(3,.slice A3 us.length c3),(5,.slice A4 us.length c4),(7,.int .i64 (k:Int))]) (fun _=>[]) 0 (aN _) (fun a w hs=>J5 hs) ?_;rintro k hk;by_cases hlt:k<us.length
  ·obtain⟨ad3,y,rfl,hy,ay⟩:=ao.get hlt;obtain⟨ad4,y',rfl,ag,ax⟩:=az.get hlt;rw[hy]at ag;injection ag with ag
   subst ag;obtain⟨yat,ysc,ywh,yho,ysl,yki,yna,ych⟩:=y;try repeat' (refine KZ ?_)
   refine aZ 9 ([]) (by kernel_rfl) rfl (by exact bQ _) ?_;all_goals(refine DD 0 ?_;refine DD 1 ?_;refine D2 2 rfl (by exact U1 k) ?_;refine D2 3 rfl (by exact U4 ay) ?_;refine DD 4 ?_;refine DD 5 ?_;refine D2 6 rfl (by exact U1 k) ?_;refine D2 7 rfl (by exact U4 ax) ?_;refine D2 8 rfl (by((with_reducible apply aMa);(iterate 3 exact rfl);kernel_rfl;kernel_rfl;kernel_rfl;kernel_rfl)) ?_;refine D8 ?_)
   all_goals try repeat' (refine KZ ?_)
   all_goals exact J2 (k+1) (by omega) (by omega)
  ·obtain rfl:k=us.length:=by omega
   try repeat' (refine KZ ?_)
   all_goals exact aQ rfl rfl rfl
end
end Go.Proofs.YtlllalmkkaolfaaGreatDoor
