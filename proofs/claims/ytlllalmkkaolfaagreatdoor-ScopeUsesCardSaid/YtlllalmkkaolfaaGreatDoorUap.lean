/- Package scope: plain, walked. -/
import Derived.Test.YtlllalmkkaolfaaGreatDoorUao
set_option maxRecDepth 20000
set_option maxHeartbeats 2000000
namespace Go.Proofs.YtlllalmkkaolfaaGreatDoor
section
open Go.RowKit Go.Vcg Go.MapKept
def HM(s:FS)(ts tb:Nat)(fn cf:Int):Bool:=
 match gM ((ts:Int),(tb:Int)) s.done with
 |none=>false
 |some k=>decide (fn=cf)&& !((gM (ts:Int) s.heads).getD false)&&decide (k=(gM (ts:Int) s.cases).getD 0)
theorem aFp{s:FS}{ts tb:Nat}{fn:Int}{c:Sc}(h:s.scopes[ts]? =some c):qL s ts tb fn=HM s ts tb fn c.fn:=by
 unfold qL HM oB;rw[h];rfl
theorem aT4{P:Program}{et:TypeId}(a:oL P et=some (.bool false))(k:Int){es:List MapEntry}{M:List (Int×Bool)}(h:MpI ZO es M):∃ok,qU P et (Instr.findNow (.int .i64) (.int .i64 k) es 0)=some (.bool ((gM k M).getD false),ok):=by
 obtain⟨ok,h1⟩:=aJc (enc:=ZO) a k h;refine⟨ok,h1.trans ?_⟩;cases gM k M<;>rfl
theorem aP5{P:Program}{et:TypeId}(a:oL P et=some (.int .i64 0))(k:Int){es:List MapEntry}{M:List (Int×Int)}(h:MpI aEj es M):∃ok,qU P et (Instr.findNow (.int .i64) (.int .i64 k) es 0)=some (.int .i64 ((gM k M).getD 0),ok):=by
 obtain⟨ok,h1⟩:=aJc (enc:=aEj) a k h;refine⟨ok,h1.trans ?_⟩;cases gM k M<;>rfl
attribute [local irreducible] gM
attribute [local irreducible] jY dT eM bF dR dM anI jK iB G GC GQ GA eV Calls IntKind.wrap Int.decLt Int.decLe
theorem aBc(x:Ux)(c:Sc)(v:Value)(hv:v.oneCell' =true)(s:FS)(μ:Mem)(xb cb hb db:Nat):
 PR 135 [.pointer (some ⟨xb,0,none⟩),.agg (xJ x).toArray,.agg (fF (c,v)).toArray] xb cb hb db s s μ (fun r=>r=.bool (HM s x.ts x.tb x.fn c.fn)):=by
 intro w q hμ g j;have a:=dW j.diff;have e:=aRq (P:=Tryz.prog) (et:=3) (by kernel_rfl) ((x.ts:Int),(x.tb:Int)) g.dn;obtain⟨okh,f⟩:=aT4 (P:=Tryz.prog) (et:=4) (by kernel_rfl) (x.ts:Int) g.hd;obtain⟨okc,h⟩:=aP5 (P:=Tryz.prog) (et:=3) (by kernel_rfl) (x.ts:Int) g.ca;generalize hr:HM s x.ts x.tb x.fn c.fn=r;unfold HM at hr;generalize (gM (x.ts:Int) s.heads).getD false=i at f hr;generalize (gM (x.ts:Int) s.cases).getD 0=cv1 at h hr;generalize gM ((x.ts:Int),(x.tb:Int)) s.done=dv1 at e hr;refine cI Tryz.func135 rfl Tryz.ntmps135 (by simp) hμ j ?_;refine lT (mK xb cb hb db s q) ?_;cases dv1 with
 | none=>
   dsimp only[Option.getD,Option.isSome]at e hr;subst hr;try repeat' (first|refine KZ ?_|refine NB fun b=>?_)
   refine aZ 12 _ (by kernel_rfl) rfl (aD (aD (aD (aD (aD (aD (aD (aD aT)))))))) ?_;all_goals(refine DD 0 ?_;refine DD 1 ?_;refine D1 2 ?_;refine DD 3 ?_;refine D1 4 ?_;refine DD 5 ?_;refine D2 6 rfl (by((with_reducible apply LD (xs:=kP ((x.ts:Int),(x.tb:Int))));(iterate 3 exact rfl);(kernel_rfl);(repeat first|with_reducible exact sH|with_reducible apply sG);exact e)) ?_;refine DD 7 ?_;refine DD 8 ?_;refine DD 9 ?_;refine DD 10 ?_;refine DD 11 ?_;refine D8 ?_)
   try repeat' (refine KZ ?_)
   refine aZ 32 _ (by kernel_rfl) rfl (aD (aD (aD (aD (aD (aD (aD (aD aT)))))))) ?_;all_goals(refine DD 0 ?_;refine DD 1 ?_;(try refine D7 2 ?_);refine DD 2 ?_;refine DD 3 ?_;refine DD 4 ?_;refine DD 5 ?_;refine DD 6 ?_;refine DD 7 ?_;refine DD 8 ?_;(try refine D7 9 ?_);refine DD 9 ?_;refine DD 10 ?_;refine DD 11 ?_;refine DD 12 ?_;refine DD 13 ?_;refine DD 14 ?_;refine DD 15 ?_;refine DD 16 ?_;refine DD 17 ?_;refine DD 18 ?_;refine DD 19 ?_;(try refine D7 20 ?_);refine DD 20 ?_;refine DD 21 ?_;refine DD 22 ?_;refine DD 23 ?_;refine DD 24 ?_;refine DD 25 ?_;refine DD 26 ?_;refine DD 27 ?_;refine DD 28 ?_;refine DD 29 ?_;refine DD 30 ?_;refine DD 31 ?_;refine D8 ?_)
   all_goals try repeat' (refine KZ ?_)
   all_goals exact xT (s:=s) 2 q a rfl (cX rfl) rfl rfl g rfl
 | some k=>
   dsimp only[Option.getD,Option.isSome]at e hr;subst hr;try repeat' (first|refine KZ ?_|refine NB fun b=>?_)
   refine aZ 12 _ (by kernel_rfl) rfl (aD (aD (aD (aD (aD (aD (aD (aD aT)))))))) ?_;all_goals(refine DD 0 ?_;refine DD 1 ?_;refine D1 2 ?_;refine DD 3 ?_;refine D1 4 ?_;refine DD 5 ?_;refine D2 6 rfl (by((with_reducible apply LD (xs:=kP ((x.ts:Int),(x.tb:Int))));(iterate 3 exact rfl);(kernel_rfl);(repeat first|with_reducible exact sH|with_reducible apply sG);exact e)) ?_;refine DD 7 ?_;refine DD 8 ?_;refine DD 9 ?_;refine DD 10 ?_;refine DD 11 ?_;refine D8 ?_)
   try repeat' (refine KZ ?_)
   by_cases l:x.fn=c.fn
   ·cases i with
    | false=>
      refine aZ 32 _ (by kernel_rfl) rfl (aD (aD (aD (aD (aD (aD (aD (aD aT)))))))) ?_;all_goals(refine DD 0 ?_;refine DD 1 ?_;(try refine D7 2 ?_);refine D1 2 ?_;refine DD 3 ?_;refine D1 4 ?_;refine DD 5 ?_;refine D1 6 ?_;refine DD 7 ?_;refine DD 8 ?_)
      all_goals(try(refine D7 9 ?_;(repeat' (refine KO ?_))))
      all_goals(refine DD 9 ?_;refine DD 10 ?_;refine D1 11 ?_;refine DD 12 ?_;refine D1 13 ?_;refine D1 14 ?_;refine DD 15 ?_;refine D2 16 rfl (by((with_reducible apply oQ);(iterate 4 exact rfl);exact rfl;(repeat first|with_reducible exact sH|with_reducible apply sG);exact f)) ?_;refine DD 17 ?_;refine DD 18 ?_;refine DD 19 ?_)
      all_goals(try(refine D7 20 ?_;(repeat' (refine KO ?_))))
      all_goals(refine DD 20 ?_;refine DD 21 ?_;refine DD 22 ?_;refine D1 23 ?_;refine DD 24 ?_;refine D1 25 ?_;refine D1 26 ?_;refine DD 27 ?_;refine D2 28 rfl (by((with_reducible apply oQ);(iterate 4 exact rfl);exact rfl;(repeat first|with_reducible exact sH|with_reducible apply sG);exact h)) ?_;refine D1 29 ?_;refine DD 30 ?_;refine DD 31 ?_;refine D8 ?_)
      all_goals try repeat' (refine KZ ?_)
      all_goals exact xT (s:=s) 2 q a rfl (cX rfl) rfl rfl g (by simp_all)
    | true=>
      refine aZ 32 _ (by kernel_rfl) rfl (aD (aD (aD (aD (aD (aD (aD (aD aT)))))))) ?_;all_goals(refine DD 0 ?_;refine DD 1 ?_;(try refine D7 2 ?_);refine D1 2 ?_;refine DD 3 ?_;refine D1 4 ?_;refine DD 5 ?_;refine D1 6 ?_;refine DD 7 ?_;refine DD 8 ?_)
      all_goals(try(refine D7 9 ?_;(repeat' (refine KO ?_))))
      all_goals(refine DD 9 ?_;refine DD 10 ?_;refine D1 11 ?_;refine DD 12 ?_;refine D1 13 ?_;refine D1 14 ?_;refine DD 15 ?_;refine D2 16 rfl (by((with_reducible apply oQ);(iterate 4 exact rfl);exact rfl;(repeat first|with_reducible exact sH|with_reducible apply sG);exact f)) ?_;refine DD 17 ?_;refine DD 18 ?_;refine DD 19 ?_)
      all_goals(try(refine D7 20 ?_;(repeat' (refine KO ?_))))
      all_goals(refine DD 20 ?_;refine DD 21 ?_;refine DD 22 ?_;refine D1 23 ?_;refine D1 24 ?_;refine D1 25 ?_;refine D1 26 ?_;refine D1 27 ?_;refine D1 28 ?_;refine D1 29 ?_;refine DD 30 ?_;refine DD 31 ?_;refine D8 ?_)
      all_goals try repeat' (refine KZ ?_)
      all_goals exact xT (s:=s) 2 q a rfl (cX rfl) rfl rfl g (by simp_all)
   ·refine aZ 32 _ (by kernel_rfl) rfl (aD (aD (aD (aD (aD (aD (aD (aD aT)))))))) ?_;all_goals(refine DD 0 ?_;refine DD 1 ?_;(try refine D7 2 ?_);refine D1 2 ?_;refine DD 3 ?_;refine D1 4 ?_;refine DD 5 ?_;refine D1 6 ?_;refine DD 7 ?_;refine DD 8 ?_)
    all_goals(try(refine D7 9 ?_;(repeat' (refine KO ?_))))
    all_goals(refine DD 9 ?_;refine DD 10 ?_;refine D1 11 ?_;refine D1 12 ?_;refine D1 13 ?_;refine D1 14 ?_;refine D1 15 ?_;refine D1 16 ?_;refine DD 17 ?_;refine DD 18 ?_;refine DD 19 ?_;(try refine D7 20 ?_);refine DD 20 ?_;refine DD 21 ?_;refine DD 22 ?_;refine D1 23 ?_;refine D1 24 ?_;refine D1 25 ?_;refine D1 26 ?_;refine D1 27 ?_;refine D1 28 ?_;refine D1 29 ?_;refine DD 30 ?_;refine DD 31 ?_;refine D8 ?_)
    all_goals try repeat' (refine KZ ?_)
    all_goals exact xT (s:=s) 2 q a rfl (cX rfl) rfl rfl g (by simp_all)
end
section
open Go.RowKit Go.Vcg Go.MapKept
theorem aOh{q:FW}{s:FS}(a:FR' q s)(at' :Int)(x:ByteArray):findF (scs q.cs) x (at'.toNat+1) at' =iD s.scopes at' x:=by rw[a.sc];rfl
theorem aI4(t:T)(w:Wh)(s:FS):∃x,pL t w s={ s with uses:=s.uses++[x] }∧x=(match iD s.scopes w.scope t.s with
 |none=>⟨⟨t.at',w.scope,2,0,0,0,t.s,false⟩,0,0,false,w.fn⟩
 | some (a,b)=>
   let k:=fD s.scopes a b
   ⟨⟨t.at',w.scope,2,0,0,k,t.s,(decide (k=1)||decide (k=2))&& !w.decl&& !qL s a b w.fn⟩,a,b,true,w.fn⟩):=⟨_,rfl,rfl⟩
attribute [local irreducible] gM iD findF qL fD pL
attribute [local irreducible] jY dT eM bF dR dM anI jK iB G GC GQ GA eV Calls IntKind.wrap Int.decLt Int.decLe
theorem aEe(q:FW)(s:FS)(xb cb hb db:Nat)(a:FR' q s)(hs:s.scopes.length≤9000)(hn:NmB s)(at' :Int)(x:ByteArray)(w:World)(μ:Mem)(hμ:MOk μ w)(h:∀y∈FB xb cb hb db s q,Bk.sh y μ):
 bC 13 #[q.sv,.int .i64 at',.string x] w (yV (iD s.scopes at' x)):=by
 obtain⟨A,c,e,b⟩:=aAx a h hs hn;rw[e,←aOh a];exact aBd w μ hμ q.cs A c b at' x
theorem QQ(t:T)(u:Value)(w0:Wh)(s:FS)(μ:Mem)(xb cb hb db:Nat)(hu:u.oneCell' =true)(hs:s.scopes.length≤8000)(hn:NmB s)(aw:s.uses.length≤100000):
 PR 82 [.pointer (some ⟨xb,0,none⟩),.agg (cO t u).toArray,WV w0] xb cb hb db s (pL t w0 s) μ (fun _=>True):=by
 intro w q hμ i hO;have p:=dW hO.diff;obtain⟨x,hx,hx0⟩:=aI4 t w0 s;rw[hx];have e:=fun(w:World) (μc:Mem) (hw:MOk μc w) (h:∀y∈FB xb cb hb db s q,Bk.sh y μc)=>aEe q s xb cb hb db i (by omega) hn w0.scope t.s w μc hw h;have af:∀a b,iD s.scopes w0.scope t.s=some (a,b)→∃c d,s.scopes[a]? =some c∧c.names[b]? =some d∧d.name=t.s∧(a:Int)≤w0.scope:=fun a b h=>by unfold iD at h;exact mD h
 generalize iD s.scopes w0.scope t.s=r at e hx0 af;refine cI Tryz.func82 rfl Tryz.ntmps82 (by simp) hμ hO ?_;refine lT (mK xb cb hb db s q) ?_;cases r with
 | none=>
   dsimp only[yV]at e hx0;try repeat' (first|refine KZ ?_|refine NB fun b=>?_)
   refine aZ 21 _ (by kernel_rfl) rfl (cP (aD (aD (aD (aD (aD (aD (aD (aD aT))))))))) ?_;all_goals(refine DD 0 ?_;refine DD 1 ?_;refine DD 2 ?_;refine DD 3 ?_;refine DD 4 ?_;refine DD 5 ?_;refine DD 6 ?_;refine DD 7 ?_)
   all_goals(refine D3 8 ?_;refine D5 ?_;(with_reducible apply F1 13);exact rfl;exact EN;exact fun w μc hw z=>e w μc hw (fun y hy=>z.own y (by repeat(first|exact hy|apply dF)));refine D9 ?_)
   all_goals(refine DD 9 ?_;refine DD 10 ?_;refine DD 11 ?_;refine DD 12 ?_;refine DD 13 ?_;refine DD 14 ?_;refine D3 15 ?_;refine D5 ?_;refine Y0 ?_;refine D9 ?_;refine DD 16 ?_;refine DD 17 ?_;refine D3 18 ?_;refine D5 ?_;refine Y0 ?_;refine D9 ?_;refine DD 19 ?_;refine D3 20 ?_;refine D5 ?_;refine Y0 ?_;refine D9 ?_;refine D8 ?_)
   try repeat' (first|((with_reducible show GC _ _ (Code.region 7 _ _) _ _ _ _);(apply dX))|refine KZ ?_)
   refine gcs ?_;refine aZ 11 _ (by kernel_rfl) rfl (aD (aD (aD (cP aT)))) ?_;all_goals(refine DD 0 ?_;refine DD 1 ?_;refine DD 2 ?_;refine DD 3 ?_;refine DD 5 ?_)
   refine iZ 4 6 (by kernel_rfl) ?dr18_4 ?dr18_6
   case' dr18_4=>
    (((with_reducible apply jU);(iterate 4 exact rfl);(((with_reducible apply yZ);exact rfl;(repeat first|with_reducible exact fW|with_reducible apply pQ);exact rfl))))
    all_goals(refine D3 6 ?_;refine D5 ?_;refine NB fun b=>?_;refine D9 ?_)
    all_goals(refine D3 7 ?_;refine D5 ?_;(((with_reducible apply qA);(iterate 3 exact rfl);(repeat first|with_reducible exact fO|with_reducible apply gD);(iterate 6 exact rfl);(((with_reducible apply kB);exact rfl;(repeat with_reducible exact fW);exact rfl));exact rfl;exact gI (by(repeat first|with_reducible exact fZ|((with_reducible apply eW);exact rfl)));omega;omega;intro v;refine mP 6 rfl (by omega) fun g cap hv hcap=>?_;(subst hv)));refine D9 ?_)
    all_goals(refine DD 8 ?_;refine DD 9 ?_;refine D3 10 ?_;refine D5 ?_;refine Y0 ?_;refine D9 ?_;refine D8 ?_)
   case' dr18_6=>
    (refine D5 ?_;refine NB fun b=>?_;refine D9 ?_)
    all_goals(refine D3 4 ?_;(with_reducible apply jU);(iterate 4 exact rfl);(((with_reducible apply yZ);exact rfl;(repeat first|with_reducible exact fW|with_reducible apply pQ);exact rfl)))
    all_goals(refine D3 7 ?_;refine D5 ?_;(((with_reducible apply qA);(iterate 3 exact rfl);(repeat first|with_reducible exact fO|with_reducible apply gD);(iterate 6 exact rfl);(((with_reducible apply kB);exact rfl;(repeat with_reducible exact fW);exact rfl));exact rfl;exact gI (by(repeat first|with_reducible exact fZ|((with_reducible apply eW);exact rfl)));omega;omega;intro v;refine mP 6 rfl (by omega) fun g cap hv hcap=>?_;(subst hv)));refine D9 ?_)
    all_goals(refine DD 8 ?_;refine DD 9 ?_;refine D3 10 ?_;refine D5 ?_;refine Y0 ?_;refine D9 ?_;refine D8 ?_)
   all_goals refine gJ (n' :=(s.uses++[x]).length) (xs' :=(s.uses++[x]).flatMap xJ) 6 rfl (by simp) (by rw[hx0];simp) ?_
   all_goals exact aDl (s:={ s with uses:=s.uses++[x] }) { q with uv:=.slice (some ⟨g,0,none⟩) (s.uses.length+1) cap } (by exact .inr rfl) p rfl (by rw[mK];exact(by repeat first|exact bY _ (bY _ (bY _ (bY _ (fH _))))|(refine aPr ?_ ?_;focus(refine kZ.cells ?_;repeat first|exact gC|refine eS rfl ?_)))) rfl ⟨i.sc,i.ca,i.hd,i.dn⟩
 | some ab=>
   obtain⟨a,k0⟩:=ab;obtain⟨c,d,hc,hd,ay,au⟩:=af a k0 rfl;have al:=fun fn=>aFp (tb:=k0) (fn:=fn) hc;have ao:fD s.scopes a k0=d.kind:=by unfold fD;rw[hc];simp[hd]
   dsimp only[yV]at e hx0;rw[ao,al]at hx0;have halt:=(List.getElem?_eq_some_iff.1 hc).1;have av:=(List.getElem?_eq_some_iff.1 hd).1;obtain⟨cc,o⟩:∃cc,q.cs[a]? =some cc:=⟨_,aA (by rw[i.len];exact halt)⟩;obtain⟨c',v⟩:=cc;obtain rfl:c' =c:=by have h9:=mE o;rw[i.sc,hc]at h9;cases h9;rfl
   have f:=AL (uV o);have aq:=hn c' (aB hc);have ax:=i;obtain⟨sv,uv,cs,ce,he,de,qc,qh,qd⟩:=q;have hlen:=i.len;dsimp only at o f hlen e⊢;refine gT 1 rfl ?_;rintro As cas rfl ad;rcases ad.form with⟨-,h0,-⟩|⟨gs,rfl⟩
   ·exfalso;omega
   refine rH (lG (F:=[_,_,_,_,_,_]) f) ?_;dsimp only[aU,aY,GG];refine gT 0 rfl ?_;rintro A4 c4 ak ae;subst ak;refine rH (lG (F:=[_,_,_,_,_,_]) f).symm ?_;rcases ae.form with⟨-,h0,-⟩|⟨g4,rfl⟩
   ·exfalso;omega
   dsimp only[aU,aY];try repeat' (first|refine KZ ?_|refine NB fun b=>?_)
   refine aZ 21 _ (by kernel_rfl) rfl (cP (aD (aD (aD (aD (aD (aD (aD (aD aT))))))))) ?_;all_goals(refine DD 0 ?_;refine DD 1 ?_;refine DD 2 ?_;refine DD 3 ?_;refine DD 4 ?_;refine DD 5 ?_;refine DD 6 ?_;refine DD 7 ?_)
   all_goals(refine D3 8 ?_;refine D5 ?_;(with_reducible apply F1 13);exact rfl;exact EN;exact fun w μc hw z=>e w μc hw (fun y hy=>z.own y (by repeat(first|exact hy|apply dF)));refine D9 ?_)
   all_goals(refine DD 9 ?_;refine DD 10 ?_;refine DD 11 ?_;refine DD 12 ?_;refine DD 13 ?_;refine DD 14 ?_;refine D3 15 ?_;refine D5 ?_;refine Y0 ?_;refine D9 ?_;refine DD 16 ?_;refine DD 17 ?_;refine D3 18 ?_;refine D5 ?_;refine Y0 ?_;refine D9 ?_;refine DD 19 ?_;refine D3 20 ?_;refine D5 ?_;refine Y0 ?_;refine D9 ?_;refine D8 ?_)
   try repeat' (first|((with_reducible show GC _ _ (Code.seq (Code.seq (Code.region 3 _ _) _) _) _ _ _ _);(apply dX))|refine KZ ?_)
   obtain⟨bu,ah⟩:∃y,y=b:=⟨_,rfl⟩;rw[←ah];clear ah;obtain⟨ws,wf,wd⟩:=w0;dsimp only at hx0⊢;have hcell:∀(j:Nat) (y:Value),(fF (c',Value.slice (some ⟨g4,0,none⟩) c'.names.length c4))[j]? =some y→(cs.flatMap fF)[a*5+j]? =some y:=fun j y hy=>Go.Vcg.lQ (enc:=fF) (s:=5) (fun _=>rfl) o j y hy;have an:(c'.names.flatMap mI)[k0*4+1]? =some (.int .i64 d.kind):=Go.Vcg.lQ (enc:=mI) (s:=4) (fun _=>rfl) hd 1 _ rfl;have aa:=fun(xb cb hb db:Nat) (vv:Value) (aj:vv.oneCell' =true) (μ:Mem)=>aBc ⟨⟨t.at',ws,2,0,0,d.kind,t.s,false⟩,a,k0,true,wf⟩ c' vv aj s μ xb cb hb db;dsimp only at aa;generalize HM s a k0 wf c'.fn=pb at hx0 aa;generalize ag:((decide (d.kind=1)||decide (d.kind=2))&& !wd&& !pb)=ck at hx0;refine gcs (iT (ι:=FW×Mem) (fun j=>FR' j.1 s) (fun j=>j.2) (fun _=>[(6,.pointer (some ⟨bu,0,none⟩)),(0,.pointer (some ⟨xb,0,none⟩))]) (fun j=>.inl ⟨bu,63,12,idx 0 (xJ x)⟩::FB xb cb hb db s j.1) ?_ ?_)
   ·try repeat' (refine KZ ?_)
    refine aZ 11 _ (by kernel_rfl) rfl (aD (aD (aD (aD (aD (aD (aD (aD (aD aT))))))))) ?_;all_goals(refine D1 0 ?_;refine D1 1 ?_;refine D1 2 ?_;refine DD 3 ?_;refine D1 4 ?_;refine D1 5 ?_;refine DD 6 ?_;refine D2 7 rfl (by exact U1 a) ?_;refine D2 8 rfl (by((with_reducible apply tA (vs:=fF (c',Value.slice (some ⟨g4,0,none⟩) c'.names.length c4)) 4);(iterate 5 exact rfl);exact hcell)) ?_;refine D3 9 ?_;refine D5 ?_;refine NB fun b=>?_;refine D9 ?_;refine D3 10 ?_;refine D5 ?_;refine Y0 ?_;refine D9 ?_;refine D8 ?_)
    try repeat' (first|((with_reducible show GC _ _ (Code.seq (Code.region 5 _ _) _) _ _ _ _);(apply dX))|refine KZ ?_)
    refine gcs (rH (lG (F:=[_,_,_,_,_,_,_,_,_,_]) f) ?_);obtain⟨Rf,ai⟩:∃R,(iB (jK cs)).eraseIdx a=R:=⟨_,rfl⟩;rw[ai];dsimp only[aU,aY,GG];try repeat' (first|((with_reducible show GC _ _ (Code.region 6 _ _) _ _ _ _);(apply dX))|refine KO ?_|(refine KV (b:=by first|exact U1 k0|((with_reducible apply eZ 0);(iterate 3 exact rfl);exact an)) (c:=?_))|refine KZ ?_)
    rw[←ai];refine gcs (rH (lG (F:=[_,_,_,_,_,_,_,_,_,_]) f).symm ?_);dsimp only[aU,aY];refine lT (L' :=_::_::_::_::FB xb cb hb db s ⟨.slice (some ⟨gs,0,none⟩) cs.length cas,uv,cs,ce,he,de,qc,qh,qd⟩) rfl ?_;cases pb<;>cases wd<;>by_cases k1:d.kind=1<;>by_cases k2:d.kind=2;all_goals try(exfalso;omega)
    all_goals simp[k1,k2]at ag
    all_goals subst ag
    all_goals try repeat' (first|refine KO ?_|(refine CF 135 ?_;refine tI 4 rfl rfl rfl EN rfl i (aa xb cb hb db _ rfl _) ?_;rintro v1 μ1 i1 ar i rfl;dsimp only[aU,aY])|refine KZ ?_)
    all_goals first|exact fJ (i1,_) i rfl PU (by rw[hx0];exact(by repeat first|exact bY _ (bY _ (bY _ (fH _)))|(refine eB ?_ ?_;focus(refine kZ.cells ?_;repeat first|exact gC|refine eS rfl ?_))))|exact fJ ((⟨.slice (some ⟨gs,0,none⟩) cs.length cas,uv,cs,ce,he,de,qc,qh,qd⟩:FW),_) i rfl PU (by rw[hx0];exact(by repeat first|exact bY _ (bY _ (bY _ (fH _)))|(refine eB ?_ ?_;focus(refine kZ.cells ?_;repeat first|exact gC|refine eS rfl ?_))))
   ·rintro⟨q9,μ9⟩ l;obtain⟨sv9,uv9,cs9,ce9,ap,de9,qc9,qh9,qd9⟩:=q9;refine lT (congrArg _ (mK xb cb hb db s _)) ?_;dsimp only at l⊢;refine aZ 11 _ (by kernel_rfl) rfl (aD (cP aT)) ?_;all_goals(refine DD 0 ?_;refine DD 1 ?_;refine DD 2 ?_;refine DD 3 ?_;refine DD 5 ?_)
    refine iZ 4 6 (by kernel_rfl) ?dr19_4 ?dr19_6
    case' dr19_4=>
     (((with_reducible apply jU);(iterate 4 exact rfl);(((with_reducible apply yZ);exact rfl;(repeat first|with_reducible exact fW|with_reducible apply pQ);exact rfl))))
     all_goals(refine D3 6 ?_;refine D5 ?_;refine NB fun b=>?_;refine D9 ?_)
     all_goals(refine D3 7 ?_;refine D5 ?_;(((with_reducible apply qA);(iterate 3 exact rfl);(repeat first|with_reducible exact fO|with_reducible apply gD);(iterate 6 exact rfl);(((with_reducible apply kB);exact rfl;(repeat with_reducible exact fW);exact rfl));exact rfl;exact gI (by(repeat first|with_reducible exact fZ|((with_reducible apply eW);exact rfl)));omega;omega;intro v;refine mP 4 rfl (by omega) fun g cap hv hcap=>?_;(subst hv)));refine D9 ?_)
     all_goals(refine DD 8 ?_;refine DD 9 ?_;refine D3 10 ?_;refine D5 ?_;refine Y0 ?_;refine D9 ?_;refine D8 ?_)
    case' dr19_6=>
     (refine D5 ?_;refine NB fun b=>?_;refine D9 ?_)
     all_goals(refine D3 4 ?_;(with_reducible apply jU);(iterate 4 exact rfl);(((with_reducible apply yZ);exact rfl;(repeat first|with_reducible exact fW|with_reducible apply pQ);exact rfl)))
     all_goals(refine D3 7 ?_;refine D5 ?_;(((with_reducible apply qA);(iterate 3 exact rfl);(repeat first|with_reducible exact fO|with_reducible apply gD);(iterate 6 exact rfl);(((with_reducible apply kB);exact rfl;(repeat with_reducible exact fW);exact rfl));exact rfl;exact gI (by(repeat first|with_reducible exact fZ|((with_reducible apply eW);exact rfl)));omega;omega;intro v;refine mP 4 rfl (by omega) fun g cap hv hcap=>?_;(subst hv)));refine D9 ?_)
     all_goals(refine DD 8 ?_;refine DD 9 ?_;refine D3 10 ?_;refine D5 ?_;refine Y0 ?_;refine D9 ?_;refine D8 ?_)
    all_goals refine gJ (n' :=(s.uses++[x]).length) (xs' :=(s.uses++[x]).flatMap xJ) 4 rfl (by simp) (by simp) ?_
    all_goals exact aDl (s:={ s with uses:=s.uses++[x] }) ⟨sv9,.slice (some ⟨g,0,none⟩) (s.uses.length+1) cap,cs9,ce9,ap,de9,qc9,qh9,qd9⟩ (by exact .inr rfl) p rfl (by rw[mK];exact(by repeat first|exact bY _ (bY _ (fH _))|(refine tB ?_ ?_;focus(refine kZ.cells ?_;repeat first|exact gC|refine eS rfl ?_)))) rfl ⟨l.sc,l.ca,l.hd,l.dn⟩
end
section
open Go.RowKit Go.Vcg Go.MapKept
def BS(s:FS)(n:Nat):Prop:=wtS s+3*n≤8000∧NmB s
theorem BS.gr{s s' :FS}{n m:Nat}(h:BS s (n+m))(hg:GrS (3*n) s s'):BS s' m:=⟨by have:=h.1;have:=hg.wt;omega,hg.nm h.2⟩
theorem BS.mono{s:FS}{n m:Nat}(h:BS s n)(hm:m≤n):BS s m:=⟨by have:=h.1;omega,h.2⟩
theorem BS.sc{s:FS}{n:Nat}(h:BS s n):s.scopes.length≤8000∧s.uses.length≤8000∧s.funcs≤8000:=by
 have:=h.1;unfold wtS at this;omega
theorem BS.other{s s' :FS}{n:Nat}(h:BS s n)(e1:s'.scopes=s.scopes)(e2:s'.uses=s.uses)(e3:s'.funcs=s.funcs):BS s' n:=by
 have h1:=h.1;unfold wtS at h1;refine⟨by unfold wtS;rw[e1,e2,e3];exact h1,fun c hc=>h.2 c (by rw[←e1];exact hc)⟩
def NK(N:T→Wh→FS→FS)(k:T):Prop:=∀(xb cb hb db:Nat) (u:Value) (w0:Wh) (s:FS) (μ:Mem),KR μ k.kids u→BS s k.size→
 PR 65 [.pointer (some ⟨xb,0,none⟩),.agg (cO k u).toArray,WV w0] xb cb hb db s (N k w0 s) μ (fun _=>True)
theorem aHl(N:T→Wh→FS→FS)(l:List T)(w:Wh)(s:FS){i:Nat}{k:T}(h:l[i]? =some k):N k w (vM N (l.take i) w s)=vM N (l.take (i+1)) w s:=(lM (fun s k=>N k w s) (l:=s) h).symm
attribute [local irreducible] gM iD findF qL fD pL
attribute [local irreducible] jY dT eM bF dR dM anI jK iB G GC GQ GA eV Calls IntKind.wrap Int.decLt Int.decLe
theorem uD(N:T→Wh→FS→FS)(l:List T)(lv:Value)(w0:Wh)(s:FS)(μ:Mem)(xb cb hb db:Nat)(hN:∀k∈l,NK N k∧NGs N k)(hk:KR μ l lv)(hB:BS s (szs l)):
 PR 41 [.pointer (some ⟨xb,0,none⟩),lv,WV w0] xb cb hb db s (vM N l w0 s) μ (fun _=>True):=by
 intro w q hμ f hO;have r:=dW hO.diff;have ai:=iG l;have aj:=hB.1;obtain⟨A,c,rfl,hcap,p⟩:=hk.form;refine cI Tryz.func41 rfl Tryz.ntmps41 (by simp) hμ hO ?_;try repeat' (first|refine KZ ?_|refine NB fun b=>?_)
 obtain⟨bp,t⟩:∃y,y=b:=⟨_,rfl⟩;rw[←t];clear t;refine cD (ι:=Nat×Mem×FW) (fun j=>j.1≤l.length∧MLe μ j.2.1∧FR' j.2.2 (vM N (l.take j.1) w0 s)) (fun j=>l.length-j.1) (fun j=>j.2.1) (fun j=>[(10,.int .i64 (j.1:Int)),(9,.int .i64 (l.length:Int)),(8,.slice A l.length c),(5,.pointer (some ⟨bp,0,none⟩)),(0,.pointer (some ⟨xb,0,none⟩))]) (fun j=>.inl ⟨bp,85,3,idx 0 (CL w0)⟩::FB xb cb hb db (vM N (l.take j.1) w0 s) j.2.2) (0,μ,q) ⟨aN _,MLe.refl _,f⟩ (fun a w hs=>hs.sel PU (fH _)) ?_;rintro⟨i,μ0,q0⟩ ⟨hi,hle,f⟩;dsimp only at hi hle f⊢;by_cases hlt:i<l.length
 ·obtain⟨k,e⟩:∃k,l[i]? =some k:=⟨_,aA hlt⟩;obtain⟨ad,x,rfl,ab,ah,ae⟩:=p i k e;have aa:=ab.mono hle;have h:=aB e;obtain⟨z,-⟩:=hN k h;have u:=kK e;have ag:=sW (N:=N) (l.take i) (fun k hk=>(hN k (bE hk)).2) w0 s;have v:=BS.gr (hB.mono u) ag;have g:=aHl N l w0 s e;try repeat' (first|refine KO ?_|(refine CF 65 ?_;refine tI 2 rfl rfl rfl EN rfl f (z xb cb hb db _ _ _ _ (ae.mono hle) v) ?_;(rintro v1 μ1 i1 o f-);(dsimp only[aU,aY]))|(refine KV (b:=by first|exact U1 i|exact U4 aa) (c:=?_))|refine KZ ?_|refine NB fun b=>?_)
  rw[g]at f⊢;exact cY (i+1,μ1,i1) ⟨by dsimp only;omega,hle.trans o,f⟩ (by dsimp only;omega) rfl PU (eB (.refl _) (bY _ (fH _)))
 ·have af:i=l.length:=by omega
  subst af;rw[aK (aC _)]at f⊢;try repeat' (refine KZ ?_)
  all_goals exact nT 1 q0 (by exact .inr rfl) r rfl rfl rfl f
end
section
open Go.RowKit Go.Vcg Go.MapKept
attribute [local irreducible] gM iD findF qL fD pL jG
attribute [local irreducible] jY dT eM bF dR dM anI jK iB G GC GQ GA eV Calls IntKind.wrap Int.decLt Int.decLe
theorem aFf(N:T→Wh→FS→FS)(fu:Nat)(t:T)(hq:dJ qS t)(h4:t.op=4)(ar:t.size≤2000)(bd:t.size≤fu)(hN:∀k,dJ qS k→k.size<t.size→NK N k∧NGs N k)(u:Value)(w0:Wh)(s:FS)(μ:Mem)(xb cb hb db:Nat)(hk:KR μ t.kids u)(hB:BS s t.size):
 PR 83 [.pointer (some ⟨xb,0,none⟩),.agg (cO t u).toArray,WV w0] xb cb hb db s (HV N fu t w0 s) μ (fun _=>True):=by
 intro w q hμ f hO;have ab:=dW hO.diff;obtain⟨bg,bf⟩:=hB;have bk:=aS t;have bc:=hq.here.1.kc.two (.inl h4);have a:=fun(v:Value) (hv:v.oneCell' =true) (k:Int) (w:World) (μc:Mem) (hw:MOk μc w)=>HC t v hv k w μc hw;obtain⟨aq,-,-⟩:=SY bc;obtain⟨A,c,rfl,hcap,an⟩:=hk.form;obtain⟨d0,af⟩:∃d,t.kids[0]? =some d:=⟨_,aA (by omega)⟩;obtain⟨d1,ae⟩:∃d,t.kids[1]? =some d:=⟨_,aA (by omega)⟩;obtain⟨ad,x0,rfl,aa,bo,hx0⟩:=an 0 d0 af;obtain⟨ad1,x1,e1,g,bm,hx1⟩:=an 1 d1 ae;cases e1;have ba:=hq.kid (aB af);have aw:=hq.kid (aB ae);have bj:=aS d1;rw[jE af,jE ae]at aq;have a7:=hN d0 ba (by omega);have a6:=hN d1 aw (by omega);have bi:∀k∈d1.kids,NK N k∧NGs N k:=fun k hk=>hN k (aw.kid hk) (by
  have:k.size≤szs d1.kids:=T.eL (List.mem_map.2 ⟨k,hk,rfl⟩);omega)
 have bb:=IP fu t ar;have ai:=fun(μc:Mem) (hle:MLe μ μc)=>XH fu t _ μc (hk.mono hle) h4 hq bd ar;generalize e:HV N fu t w0 s=s';unfold HV at e;dsimp only at e;rw[jE af,jE ae]at e;have g1:GrS 1 s { s with funcs:=s.funcs+1 }:=⟨by unfold wtS;dsimp only;omega,fun h=>h⟩;have e1:((s.funcs:Nat):Int)+1=((s.funcs+1:Nat):Int):=by omega
 have bp:s.funcs≤8000:=by unfold wtS at bg;omega
 generalize av:({ s with funcs:=s.funcs+1 }:FS)=s1 at g1 e;have bh:FR' q s1:=by subst av;exact⟨f.sc,f.ca,f.hd,f.dn⟩
 obtain⟨ws,wf,wd⟩:=w0;dsimp only at e;refine cI Tryz.func83 rfl Tryz.ntmps83 (by simp) hμ hO ?_;refine lT (mK xb cb hb db s q) ?_;try repeat' (first|((with_reducible show GC _ _ (Code.seq (Code.seq (Code.region 3 _ _) _) _) _ _ _ _);(apply dX))|refine KZ ?_|refine NB fun b=>?_)
 rename_i bn;obtain⟨bw,az⟩:∃y,y=b:=⟨_,rfl⟩;rw[←az,e1];clear az;refine gcs (AG (L' :=.inl ⟨bw,85,3,idx 0 (CL ⟨ws,((s.funcs+1:Nat):Int),wd⟩)⟩::.inl ⟨bn,24,6,idx 0 (cO t (.slice (some ad) t.kids.length c))⟩::FB xb cb hb db s1 q) (by rw[←av,mK];exact(by repeat first|exact fH _|(refine fA ?_ ?_;focus(first|exact kZ.refl _|(refine kZ.cells ?_;repeat first|exact gC|refine eS rfl ?_))))) ?_);generalize hc:(!decide (t.s=⟨#[]⟩)&& !jG t 1)=cc at e;have ax:=fun(lv:Value) (μ:Mem)=>BN 5 t.at' ⟨ws,((s.funcs+1:Nat):Int),wd⟩ [⟨t.s,7,false,0⟩] lv s1 μ xb cb hb db;have gg2:GrS 1 s1 (if cc=true then kL 5 t.at' ⟨ws,((s.funcs+1:Nat):Int),wd⟩ [⟨t.s,7,false,0⟩] s1 else s1):=by
  cases cc
  ·exact(GrS.refl s1).mono (by omega)
  ·exact vY s1 (by simp)
 have a8:wtS s1≤8000-3:=by have:=g1.wt;omega
 have au:s1.scopes.length≤8000:=by unfold wtS at a8;omega
 obtain⟨s2,o⟩:∃y,(if cc=true then kL 5 t.at' ⟨ws,((s.funcs+1:Nat):Int),wd⟩ [⟨t.s,7,false,0⟩] s1 else s1)=y:=⟨_,rfl⟩;obtain⟨w2,l⟩:∃y,(if cc=true then nG ⟨ws,((s.funcs+1:Nat):Int),wd⟩ s1 else⟨ws,((s.funcs+1:Nat):Int),wd⟩)=y:=⟨_,rfl⟩;rw[o,l]at e;rw[o]at gg2;refine iT (ι:=FW×Mem) (fun j=>FR' j.1 s2∧MLe μ j.2) (fun j=>j.2) (fun _=>[(5,.pointer (some ⟨bw,0,none⟩)),(4,.pointer (some ⟨bn,0,none⟩)),(0,.pointer (some ⟨xb,0,none⟩))]) (fun j=>.inl ⟨bw,85,3,idx 0 (CL w2)⟩::.inl ⟨bn,24,6,idx 0 (cO t (.slice (some ad) t.kids.length c))⟩::FB xb cb hb db s2 j.1) ?_ ?_
 ·have a:=a (.slice (some ad) t.kids.length c) rfl 1;have f:=bh;by_cases ay:t.s=⟨#[]⟩
  ·have ecc:cc=false:=by rw[←hc];simp[ay]
   subst ecc;rw[if_neg (by simp)]at o l;subst o l;try repeat' (first|refine KZ ?_|(refine KB ?_ ?_<;>intro hp))
   all_goals try(exfalso;contradiction)
   all_goals exact fJ (q,_) ⟨f,MLe.refl _⟩ rfl PU (by repeat exact fH _)
  ·cases z:jG t 1 with
   | true=>
     rw[z]at a;have ecc:cc=false:=by rw[←hc];simp[z]
     subst ecc;rw[if_neg (by simp)]at o l;subst o l;try repeat' (first|refine KO ?_|refine K2 63 (fun w μc hw ao=>a w μc hw) ?_|refine KZ ?_)
     all_goals exact fJ (q,_) ⟨f,MLe.refl _⟩ rfl PU (by repeat exact fH _)
   | false=>
     rw[z]at a;have ecc:cc=true:=by rw[←hc];simp[z,ay]
     subst ecc;rw[if_pos rfl]at o l;subst o l;try repeat' (first|refine KO ?_|refine K2 63 (fun w μc hw ao=>a w μc hw) ?_|(refine CF 39 ?_;refine RI 1 4 rfl rfl (by decide) ?_;refine tY (eB (.refl _) (eB (.refl _) (fH _))) ?_;(with_reducible apply yU (bl:=[⟨t.s,7,false,0⟩]) 2);(iterate 3 exact rfl);exact EN;exact rfl;exact f;exact ax _ _ au;rintro v1 μ1 i1 x f rfl;dsimp only[aU,aY])|refine KZ ?_|refine NB fun b=>?_)
     all_goals exact fJ (i1,_) ⟨f,x⟩ rfl PU (by repeat first|exact fH _|(refine fA ?_ ?_;focus(refine kZ.cells ?_;repeat first|exact gC|refine eS rfl ?_)))
 rintro⟨q2,μ2⟩ ⟨f,i⟩;dsimp only at f i⊢;have r:=fun(lv:Value) (μ:Mem) (h:s2.scopes.length≤8000)=>BN 1 t.at' w2 (dM fu t) lv s2 μ xb cb hb db h;have g3:=vY (kind:=1) (at' :=t.at') (w:=w2) s2 bb;have l:wtS s2≤8000-3*szs t.kids-1:=by have:=gg2.wt;have:=g1.wt;omega
 have ah:s2.scopes.length≤8000:=by unfold wtS at l;omega
 have ap:BS (kL 1 t.at' w2 (dM fu t) s2) (szs t.kids):=⟨by have:=g3.wt;have:=gg2.wt;have:=g1.wt;omega,g3.nm (gg2.nm (g1.nm bf))⟩;generalize kL 1 t.at' w2 (dM fu t) s2=s3 at e r ap;generalize nG w2 s2=w3 at e r;have aa:=aa.mono i;have g:=g.mono i;have hx0:=hx0.mono i;have hx1:=hx1.mono i;repeat' (((with_reducible show GC _ _ (Code.seq (Code.region 5 _ _) _) _ _ _ _);(apply dX)))
 refine gcs (iT (ι:=FW×Mem) (fun j=>FR' j.1 s3∧MLe μ2 j.2) (fun j=>j.2) (fun _=>[(5,.pointer (some ⟨bw,0,none⟩)),(4,.pointer (some ⟨bn,0,none⟩)),(0,.pointer (some ⟨xb,0,none⟩))]) (fun j=>.inl ⟨bw,85,3,idx 0 (CL w3)⟩::.inl ⟨bn,24,6,idx 0 (cO t (.slice (some ad) t.kids.length c))⟩::FB xb cb hb db s3 j.1) ?_ ?_)
 ·refine aZ 8 _ (by kernel_rfl) rfl (cP (aD aT)) ?_;all_goals(refine DD 0 ?_;refine DD 1 ?_;refine DD 2 ?_;refine DD 4 ?_)
  refine iZ 3 5 (by kernel_rfl) ?dr20_3 ?dr20_5
  case' dr20_3=>
   (((with_reducible apply jU);(iterate 4 exact rfl);(((with_reducible apply yZ);exact rfl;(repeat with_reducible exact fW);exact rfl))))
   all_goals(refine D3 5 ?_;refine D5 ?_;(refine CF 136 ?_;(with_reducible apply aKa);(iterate 3 exact rfl);exact EN;exact ai _ i;intro v5 μ5 al);refine D9 ?_)
   all_goals(refine D3 6 ?_;refine D5 ?_;(refine CF 39 ?_;refine tY (eB (.refl _) (eB (.refl _) (fH _))) ?_;(with_reducible apply yU (bl:=dM fu t) 2);(iterate 3 exact rfl);exact EN;exact rfl;exact f;exact r _ _ ah;rintro v1 μ1 i1 x f rfl;dsimp only[aU,aY]);refine D9 ?_)
   all_goals(refine D3 7 ?_;refine D5 ?_;refine Y0 ?_;refine D9 ?_;refine D8 ?_)
  case' dr20_5=>
   (refine D5 ?_;(refine CF 136 ?_;(with_reducible apply aKa);(iterate 3 exact rfl);exact EN;exact ai _ i;intro v5 μ5 al);refine D9 ?_)
   all_goals(refine D3 3 ?_;(with_reducible apply jU);(iterate 4 exact rfl);(((with_reducible apply yZ);exact rfl;(repeat first|with_reducible exact fW|with_reducible apply pQ);exact rfl)))
   all_goals(refine D3 6 ?_;refine D5 ?_;(refine CF 39 ?_;refine tY (eB (.refl _) (eB (.refl _) (fH _))) ?_;(with_reducible apply yU (bl:=dM fu t) 2);(iterate 3 exact rfl);exact EN;exact rfl;exact f;exact r _ _ ah;rintro v1 μ1 i1 x f rfl;dsimp only[aU,aY]);refine D9 ?_)
   all_goals(refine D3 7 ?_;refine D5 ?_;refine Y0 ?_;refine D9 ?_;refine D8 ?_)
  all_goals exact fJ (i1,_) ⟨f,al.trans x⟩ rfl PU (by repeat first|exact fH _|(refine fA ?_ ?_;focus(refine kZ.cells ?_;repeat first|exact gC|refine eS rfl ?_)))
 rintro⟨q3,μ3⟩ ⟨f,p⟩;dsimp only at f p⊢;have aa:=aa.mono p;have g:=g.mono p;have hx0:=hx0.mono p;have hx1:=hx1.mono p;have ag:=BS.gr (ap.mono aq) (a7.2 w3 s3);try repeat' (refine KZ ?_)
 refine aZ 7 _ (by kernel_rfl) rfl (aD (aD aT)) ?_;all_goals(refine DD 0 ?_;refine D1 1 ?_;refine DD 2 ?_;refine D2 3 rfl (by exact U1 0) ?_;refine D2 4 rfl (by exact U4 aa) ?_;refine DD 5 ?_)
 all_goals(refine D3 6 ?_;refine D5 ?_;refine CF 65 ?_;refine tI 2 rfl rfl rfl EN rfl f (a7.1 xb cb hb db _ w3 s3 _ hx0 (ap.mono (by omega))) ?_;rintro v6 μ6 i6 ak f-;dsimp only[aU,aY];refine D9 ?_)
 all_goals refine D8 ?_
 generalize N d0 w3 s3=s4 at f e ag;have g:=g.mono ak;have hx1:=hx1.mono ak;have a:=a (.slice (some ad) t.kids.length c) rfl 128;by_cases h6:d1.op=6
 ·cases a1:jG t 128 with
  | false=>
    rw[a1]at a e;rw[if_pos ⟨h6,rfl⟩]at e;try repeat' (first|refine KO ?_|refine K2 63 (fun w μc hw ao=>a w μc hw) ?_|(refine KV (b:=by first|exact U1 1|exact U4 g) (c:=?_))|refine KZ ?_)
    refine aZ 8 _ (by kernel_rfl) rfl (aD (aD aT)) ?_;all_goals(refine DD 0 ?_;refine D1 1 ?_;refine DD 2 ?_;refine D2 3 rfl (by exact U1 1) ?_;refine DD 4 ?_;refine D2 5 rfl (by exact U4 g) ?_;refine DD 6 ?_)
    all_goals(refine D3 7 ?_;refine D5 ?_;refine CF 41 ?_;refine tI 2 rfl rfl rfl EN rfl f (uD N d1.kids x1 w3 s4 _ xb cb hb db bi hx1 (ag.mono (by omega))) ?_;rintro v7 μ7 i7 aj f-;dsimp only[aU,aY];refine D9 ?_)
    all_goals refine D8 ?_
    all_goals try repeat' (refine KZ ?_)
    all_goals exact nT 2 i7 (by exact .inl rfl) ab rfl rfl e f
  | true=>
    rw[a1]at a e;rw[if_neg (by simp)]at e;try repeat' (first|refine KO ?_|refine K2 63 (fun w μc hw ao=>a w μc hw) ?_|(refine KV (b:=by first|exact U1 1|exact U4 g) (c:=?_))|refine KZ ?_)
    refine aZ 7 _ (by kernel_rfl) rfl (aD (aD aT)) ?_;all_goals(refine DD 0 ?_;refine D1 1 ?_;refine DD 2 ?_;refine D2 3 rfl (by exact U1 1) ?_;refine D2 4 rfl (by exact U4 g) ?_;refine DD 5 ?_)
    all_goals(refine D3 6 ?_;refine D5 ?_;refine CF 65 ?_;refine tI 2 rfl rfl rfl EN rfl f (a6.1 xb cb hb db _ w3 s4 _ hx1 ag) ?_;rintro v7 μ7 i7 aj f-;dsimp only[aU,aY];refine D9 ?_)
    all_goals refine D8 ?_
    all_goals exact nT 2 i7 (by exact .inr rfl) ab rfl rfl e f
 ·rw[if_neg (fun h=>h6 h.1)]at e;try repeat' (first|refine KO ?_|(refine KV (b:=by first|exact U1 1|exact U4 g) (c:=?_))|refine KZ ?_)
  refine aZ 7 _ (by kernel_rfl) rfl (aD (aD aT)) ?_;all_goals(refine DD 0 ?_;refine D1 1 ?_;refine DD 2 ?_;refine D2 3 rfl (by exact U1 1) ?_;refine D2 4 rfl (by exact U4 g) ?_;refine DD 5 ?_)
  all_goals(refine D3 6 ?_;refine D5 ?_;refine CF 65 ?_;refine tI 2 rfl rfl rfl EN rfl f (a6.1 xb cb hb db _ w3 s4 _ hx1 ag) ?_;rintro v7 μ7 i7 aj f-;dsimp only[aU,aY];refine D9 ?_)
  all_goals refine D8 ?_
  all_goals exact nT 2 i7 (by exact .inr rfl) ab rfl rfl e f
theorem WC(N:T→Wh→FS→FS)(t:T)(hq:dJ qS t)(hN:∀k,dJ qS k→k.size<t.size→NK N k∧NGs N k)(u:Value)(w0:Wh)(s:FS)(μ:Mem)(xb cb hb db:Nat)(hk:KR μ t.kids u)(hB:BS s t.size):
 PR 88 [.pointer (some ⟨xb,0,none⟩),.agg (cO t u).toArray,WV w0] xb cb hb db s (uQ N t w0 s) μ (fun _=>True):=by
 intro w q hμ g hO;have ai:=dW hO.diff;have an:=aS t;have aq:=iG t.kids;have au:=hB.1;obtain⟨A,c,rfl,hcap,ag⟩:=hk.form;obtain⟨ws,wf,wd⟩:=w0;generalize l:uQ N t ⟨ws,wf,wd⟩ s=s';unfold uQ at l;dsimp only at l;have ah:∀i,GrS (3*szs (t.kids.take i)) s (((t.kids.take i).zipIdx).foldl (fun s k=>if t.op=60∨t.op=61∨t.op=64∨(t.op=63∧k.2=0)∨(t.op=62∧k.2=1)then N k.1 ⟨ws,wf,wd⟩ s else N k.1 ⟨ws,wf,false⟩ s) s):=fun i=>by
  have g2:=tH (fun s (k:T×Nat)=>if t.op=60∨t.op=61∨t.op=64∨(t.op=63∧k.2=0)∨(t.op=62∧k.2=1)then N k.1 ⟨ws,wf,wd⟩ s else N k.1 ⟨ws,wf,false⟩ s) (fun k=>3*k.1.size) ((t.kids.take i).zipIdx) s fun k hk s=>by
   have hm:=bE (yA hk);have ae:=(hN k.1 (hq.kid hm) (by
    have:k.1.size≤szs t.kids:=T.eL (List.mem_map.2 ⟨k.1,hm,rfl⟩);omega)).2
   split
   ·exact ae _ _
   ·exact ae _ _
  rw[QB]at g2;exact g2
 have v:∀(i:Nat) (k:T) (st:FS),t.kids[i]? =some k→((t.kids.take (i+1)).zipIdx).foldl (fun s k=>if t.op=60∨t.op=61∨t.op=64∨(t.op=63∧k.2=0)∨(t.op=62∧k.2=1)then N k.1 ⟨ws,wf,wd⟩ s else N k.1 ⟨ws,wf,false⟩ s) st=(fun s=>if t.op=60∨t.op=61∨t.op=64∨(t.op=63∧i=0)∨(t.op=62∧i=1)then N k ⟨ws,wf,wd⟩ s else N k ⟨ws,wf,false⟩ s) (((t.kids.take i).zipIdx).foldl (fun s k=>if t.op=60∨t.op=61∨t.op=64∨(t.op=63∧k.2=0)∨(t.op=62∧k.2=1)then N k.1 ⟨ws,wf,wd⟩ s else N k.1 ⟨ws,wf,false⟩ s) st):=fun i k st af=>by rw[cG,af,List.zipIdx_append,iK];have hlt:=(List.getElem?_eq_some_iff.1 af).1;simp[cM,jA (iO hlt)]
 generalize (fun(s:FS) (k:T×Nat)=>if t.op=60∨t.op=61∨t.op=64∨(t.op=63∧k.2=0)∨(t.op=62∧k.2=1)then N k.1 ⟨ws,wf,wd⟩ s else N k.1 ⟨ws,wf,false⟩ s)=F at ah v l;refine cI Tryz.func88 rfl Tryz.ntmps88 (by simp) hμ hO ?_;try repeat' (first|refine KZ ?_|refine NB fun b=>?_)
 rename_i bn bw;obtain⟨bv,aj⟩:∃y,y=b:=⟨_,rfl⟩;rw[←aj];clear aj;refine cD (ι:=Nat×Mem×FW) (fun j=>j.1≤t.kids.length∧MLe μ j.2.1∧FR' j.2.2 (((t.kids.take j.1).zipIdx).foldl F s)) (fun j=>t.kids.length-j.1) (fun j=>j.2.1) (fun j=>[(14,.int .i64 (j.1:Int)),(13,.int .i64 (t.kids.length:Int)),(12,.slice A t.kids.length c),(6,.pointer (some ⟨bv,0,none⟩)),(5,.pointer (some ⟨bw,0,none⟩)),(4,.pointer (some ⟨bn,0,none⟩)),(0,.pointer (some ⟨xb,0,none⟩))]) (fun j=>.inl ⟨bv,85,3,idx 0 (CL ⟨ws,wf,false⟩)⟩::.inl ⟨bw,85,3,idx 0 (CL ⟨ws,wf,wd⟩)⟩::.inl ⟨bn,24,6,idx 0 (cO t (.slice A t.kids.length c))⟩::FB xb cb hb db (((t.kids.take j.1).zipIdx).foldl F s) j.2.2) (0,μ,q) ⟨aN _,MLe.refl _,g⟩ (fun a w hs=>hs.sel PU (by repeat first|exact fH _|(refine fA ?_ ?_;focus(refine kZ.cells ?_;repeat first|exact gC|refine eS rfl ?_)))) ?_;rintro⟨i,μ0,q0⟩ ⟨hi,hle,g⟩;dsimp only at hi hle g⊢;by_cases hlt:i<t.kids.length
 ·obtain⟨k,o⟩:∃k,t.kids[i]? =some k:=⟨_,aA hlt⟩;obtain⟨ad,x,rfl,ak,ap,ab⟩:=ag i k o;have aa:=ak.mono hle;have p:=aB o;have ar:k.size≤szs t.kids:=T.eL (List.mem_map.2 ⟨k,p,rfl⟩);obtain⟨z,-⟩:=hN k (hq.kid p) (by omega);have ao:=kK o;have r:=BS.gr (hB.mono (m:=szs (t.kids.take i)+k.size) (by omega)) (ah i);have e:=v i k s o;generalize ((t.kids.take i).zipIdx).foldl F s=st at g r e⊢;by_cases hc:t.op=60∨t.op=61∨t.op=64∨(t.op=63∧i=0)∨(t.op=62∧i=1)
  ·have f:=z xb cb hb db _ ⟨ws,wf,wd⟩ _ _ (ab.mono hle) r;dsimp only at e;rw[if_pos hc]at e;rw[←e]at f;try repeat' (first|refine KO ?_|(refine CF 65 ?_;refine tI 4 rfl rfl rfl EN rfl g (f) ?_;(rintro v1 μ1 i1 h g-);(dsimp only[aU,aY]))|(refine KV (b:=by first|exact U1 i|exact U4 aa) (c:=?_))|refine KZ ?_|refine NB fun b=>?_|(refine KB ?_ ?_<;>intro hp))
   all_goals exact cY (i+1,μ1,i1) ⟨by dsimp only;omega,hle.trans h,g⟩ (by dsimp only;omega) rfl PU (by repeat exact bY _ (fH _))
  ·have f:=z xb cb hb db _ ⟨ws,wf,false⟩ _ _ (ab.mono hle) r;dsimp only at e;rw[if_neg hc]at e;rw[←e]at f;try repeat' (first|refine KO ?_|(refine CF 65 ?_;refine tI 4 rfl rfl rfl EN rfl g (f) ?_;(rintro v1 μ1 i1 h g-);(dsimp only[aU,aY]))|(refine KV (b:=by first|exact U1 i|exact U4 aa) (c:=?_))|refine KZ ?_|refine NB fun b=>?_|(refine KB ?_ ?_<;>intro hp))
   all_goals exact cY (i+1,μ1,i1) ⟨by dsimp only;omega,hle.trans h,g⟩ (by dsimp only;omega) rfl PU (by repeat exact bY _ (fH _))
 ·have al:i=t.kids.length:=by omega
  subst al;rw[aK (aC _)]at g⊢;try repeat' (refine KZ ?_)
  all_goals exact nT 3 q0 (by exact .inr rfl) ai rfl rfl l g
end
end Go.Proofs.YtlllalmkkaolfaaGreatDoor
namespace Go.Vcg
open Go.RowKit Go.MapKept
section
variable{P:Program}{X:Ctx}{ops:Array Oper}{Q:Exit→Act→World→Prop}{rest:List Oper}{μ:Mem}{l:bS}{L:List Bk}{w:World}{o:Oper}{d:Nat}
variable{ty:TypeId}{pos:String}{af:Array Edge}{gd:Option (Nat×Bool)}{ds:Option Nat}
theorem aB6{t:TypeId}{m k x:Operand}{b ck ck' :Nat}{es es' :List MapEntry}{kv v:Value}{F:Mp→List Bk}(hw:iF ops l ⟨none,.mapUpdate t m k x,ty,pos,af,gd⟩=some true)(hm:ev l m=some (.map (some b)))(hk:ev l k=some kv)(g:ev l x=some v)
 (hu:UpM L b ⟨b,es,ck⟩ F)(f:∀(b:Nat) (w:World),w.heap[b]? =some (.map es.toArray ck)→(Instr.mapUpdate t (.map (some b)) kv v).run P w=.ok () { w with heap:=w.heap.setIfInBounds b (.map es'.toArray ck') })
 (h:G P X ops Q rest μ l (F ⟨b,es',ck'⟩)):G P X ops Q (⟨none,.mapUpdate t m k x,ty,pos,af,gd⟩::rest) μ l L:=
 AH hw fun a w hs=>by
  obtain⟨i,hi,_,j⟩:=hu;have hb:w.heap[b]? =some (.map es.toArray ck):=hs.own _ (fB hi);have e1:=hs.eval hm;have e2:=hs.eval hk;have e3:=hs.eval g;have e:(execOp a.eval ⟨none,.mapUpdate t m k x,ty,pos,af,gd⟩).run P w=.ok .skip { w with heap:=w.heap.setIfInBounds b (.map es'.toArray ck') }:=by generalize a.eval=ρ at e1 e2 e3;simp[execOp,e1,e2,e3,f b w hb]
  unfold Oper.wp
  rw[e,Oper.upon_skip];have hlt:=(Array.getElem?_eq_some_iff.1 hb).1;have:=hs.upd hi (y:=.mp ⟨b,es',ck'⟩) (w' :={ w with heap:=w.heap.setIfInBounds b (.map es'.toArray ck') }) rfl rfl rfl (by simp)
   (fun c hc hne=>by
     have:b≠c:=fun e=>hne (by rw[e];rfl);simp[dH this])
   (by show(w.heap.setIfInBounds b _)[b]? =_;rw[cT hlt])
   (fun c hc=>.inl hc)
  rw[j]at h;exact h _ _ this
theorem aSa{t kt:TypeId}{m k:Operand}{b ck:Nat}{es es' :List MapEntry}{kv:Value}{F:Mp→List Bk}(hw:iF ops l ⟨none,.call { callee:=.builtin .delete,args:= #[m,k],argTypes:= #[t,kt] },ty,pos,af,gd⟩=some true)(hm:ev l m=some (.map (some b)))(hk:ev l k=some kv)
 (hu:UpM L b ⟨b,es,ck⟩ F)(f:∀(b:Nat) (w:World),w.heap[b]? =some (.map es.toArray ck)→(Builtin.delete_ #[t,kt] ty #[.map (some b),kv]).run P w=.ok (.tuple #[]) { w with heap:=w.heap.setIfInBounds b (.map es'.toArray ck) })
 (h:G P X ops Q rest μ l (F ⟨b,es',ck⟩)):G P X ops Q (⟨none,.call { callee:=.builtin .delete,args:= #[m,k],argTypes:= #[t,kt] },ty,pos,af,gd⟩::rest) μ l L:=
 AH hw fun a w hs=>by
  obtain⟨i,hi,_,g⟩:=hu;have hb:w.heap[b]? =some (.map es.toArray ck):=hs.own _ (fB hi);have e1:=hs.eval hm;have e2:=hs.eval hk;have e:(execOp a.eval ⟨none,.call { callee:=.builtin .delete,args:= #[m,k],argTypes:= #[t,kt] },ty,pos,af,gd⟩).run P w=.ok (.value (.tuple #[])) { w with heap:=w.heap.setIfInBounds b (.map es'.toArray ck) }:=by generalize a.eval=ρ at e1 e2;simp[execOp,resolve,invoke,builtin,e1,e2,f b w hb]
  unfold Oper.wp
  rw[e,Oper.upon_value];have hlt:=(Array.getElem?_eq_some_iff.1 hb).1;have:=hs.upd hi (y:=.mp ⟨b,es',ck⟩) (w' :={ w with heap:=w.heap.setIfInBounds b (.map es'.toArray ck) }) rfl rfl rfl (by simp)
   (fun c hc hne=>by
     have:b≠c:=fun e=>hne (by rw[e];rfl);simp[dH this])
   (by show(w.heap.setIfInBounds b _)[b]? =_;rw[cT hlt])
   (fun c hc=>.inl hc)
  rw[g]at h;exact h _ _ this
end
section
variable{P:Program}{t kt et:TypeId}
theorem aTu(ht:P.underlying t=some (.map kt et))(k:Int×Int)(a:pP P kt (kP k)=true)(y:Int){es:List MapEntry}{M:List ((Int×Int)×Int)}(h:MpP es M)(ck:Nat):
 ∃es' ck',MpP es' (iS k y M)∧∀(b:Nat) (w:World),w.heap[b]? =some (.map es.toArray ck)→(Instr.mapUpdate t (.map (some b)) (.agg (kP k).toArray) (.int .i64 y)).run P w=.ok () { w with heap:=w.heap.setIfInBounds b (.map es'.toArray ck') }:=by
 have hf:=aB9 k 0 h;cases hi:pZ k M 0 with
 | none=>
   rw[hi]at hf;exact⟨_,_,h.app hi,fun b w hb=>DM ht a hb hf⟩
 | some p=>
   obtain⟨p,x⟩:=p;rw[hi]at hf;have hg:=(tF hi).2;rw[dK]at hg;exact⟨_,_,h.set hi,fun b w hb=>DL ht a (by simp[Instr.sameBits]) hb hf (h.key hg)⟩
theorem aPz{α:Type}{enc:α→Value}(ht:P.underlying t=some (.map kt et))(a:P.underlying kt=some (.int .i64))(k:Int)(hk:IsKey (.int .i64) (.int .i64 k))(y:α){es:List MapEntry}{M:List (Int×α)}(h:MpI enc es M)(ck:Nat):
 ∃es' ck',MpI enc es' (iS k y M)∧∀(b:Nat) (w:World),w.heap[b]? =some (.map es.toArray ck)→(Instr.mapUpdate t (.map (some b)) (.int .i64 k) (enc y)).run P w=.ok () { w with heap:=w.heap.setIfInBounds b (.map es'.toArray ck') }:=by
 have hf:=UT k 0 h;cases hi:pZ k M 0 with
 | none=>
   rw[hi]at hf;exact⟨_,_,h.app hi,fun b w hb=>vT ht a hk hb hf⟩
 | some p=>
   obtain⟨p,x⟩:=p;rw[hi]at hf;have hg:=(tF hi).2;rw[dK]at hg;exact⟨_,_,h.set hi,fun b w hb=>vS ht a hk hb hf (h.key hg)⟩
theorem aUx{α:Type}{enc:α→Value}(ht:P.underlying t=some (.map kt et))(a:P.underlying kt=some (.int .i64))(k:Int)(hk:IsKey (.int .i64) (.int .i64 k)){es:List MapEntry}{M:List (Int×α)}(h:MpI enc es M)(ck:Nat):
 ∃es',MpI enc es' (tJ k M)∧∀(ty:TypeId) (b:Nat) (w:World),w.heap[b]? =some (.map es.toArray ck)→(Builtin.delete_ #[t,kt] ty #[.map (some b),.int .i64 k]).run P w=.ok (.tuple #[]) { w with heap:=w.heap.setIfInBounds b (.map es'.toArray ck) }:=by
 have hf:=UT k 0 h;cases hi:pZ k M 0 with
 | none=>
   rw[hi]at hf;refine⟨es,by rw[SF hi];exact h,fun ty b w hb=>?_⟩;simp[Builtin.delete_,run_underlying ht,MapKept.run_getObj_map hb,MapKept.run_checkKey a hk,MapKept.run_findKey a hf,MapKept.run_setObj_map _ hb]
 | some p=>
   obtain⟨p,x⟩:=p;rw[hi]at hf;have hg:=(tF hi).2;rw[dK]at hg;have hlt:p<es.length:=by rw[h.len];exact(List.getElem?_eq_some_iff.1 hg).1
   have c:es.toArray.eraseIdxIfInBounds p=(es.eraseIdx p).toArray:=by rw[List.eraseIdxIfInBounds_toArray]
   refine⟨es.eraseIdx p,h.del hi,fun ty b w hb=>?_⟩;simp[Builtin.delete_,run_underlying ht,MapKept.run_getObj_map hb,MapKept.run_checkKey a hk,MapKept.run_findKey a hf,MapKept.run_setObj_map _ hb,c]
end
end Go.Vcg
namespace Go.Proofs.YtlllalmkkaolfaaGreatDoor
open Go.RowKit Go.Vcg Go.MapKept
def xL(ws:Int)(s:FS)(x:ByteArray):FS:=match iD s.scopes ws x with
 |some (a,b)=>{ s with done:=iS ((a:Int),(b:Int)) ((gM (a:Int) s.cases).getD 0) s.done }
 |none=>s
theorem aLd(N:T→Wh→FS→FS)(t:T)(w:Wh)(s:FS):AS N t w s=(bB (cQ t 0)).foldl (xL w.scope) (vM N (t.kids.drop 1) w (N (cQ t 0) { w with decl:=true } s)):=rfl
theorem aLe(ws:Int)(s:FS)(x:ByteArray):(xL ws s x).scopes=s.scopes∧(xL ws s x).uses=s.uses∧(xL ws s x).funcs=s.funcs:=by
 unfold xL;split<;>exact⟨rfl,rfl,rfl⟩
theorem OH(ws:Int):∀(xs:List ByteArray) (s:FS),(xs.foldl (xL ws) s).scopes=s.scopes
 |[],s=>rfl
 | x::r,s=>by rw[bX];exact(OH ws r _).trans (aLe ws s x).1
attribute [local irreducible] gM iS iD findF qL fD pL jG xL
attribute [local irreducible] jY dT eM bF dR dM anI jK iB G GC GQ GA eV Calls IntKind.wrap Int.decLt Int.decLe
theorem aAw(N:T→Wh→FS→FS)(t:T)(hq:dJ qS t)(h3:t.op=3)(bb:t.size≤2000)(hN:∀k,dJ qS k→k.size<t.size→NK N k∧NGs N k)(u:Value)(w0:Wh)(s:FS)(μ:Mem)(xb cb hb db:Nat)(hk:KR μ t.kids u)(hB:BS s t.size):
 PR 87 [.pointer (some ⟨xb,0,none⟩),.agg (cO t u).toArray,WV w0] xb cb hb db s (AS N t w0 s) μ (fun _=>True):=by
 intro w q hμ g hO;have al:=dW hO.diff;have bc:=aS t;have aj:=hq.here.1.dec h3;have ar:=JX aj;obtain⟨A,c,rfl,hcap,ak⟩:=hk.form;obtain⟨d0,x⟩:∃d,t.kids[0]? =some d:=⟨_,aA (by omega)⟩;obtain⟨ad,x0,rfl,v,bd,hx0⟩:=ak 0 d0 x;have au:=hq.kid (aB x);rw[jE x]at ar;have ap:=hN d0 au (by omega);have ao:∀k∈t.kids.drop 1,NK N k∧NGs N k:=fun k hk=>hN k (hq.kid (cU hk)) (by
  have:k.size≤szs t.kids:=T.eL (List.mem_map.2 ⟨k,cU hk,rfl⟩);omega)
 have a6:=hk.DA aj;have bg:(t.kids.drop 1).length=t.kids.length-1:=dA;obtain⟨ws,wf,wd⟩:=w0;generalize i:AS N t ⟨ws,wf,wd⟩ s=s';rw[aLd]at i;dsimp only at i;rw[jE x]at i;have aq:BS s (d0.size+szs (t.kids.drop 1)):=hB.mono (by omega);have af:=BS.gr aq (ap.2 ⟨ws,wf,true⟩ s);have z:=BS.gr (m:=0) (af.mono (by omega)) (sW (N:=N) (t.kids.drop 1) (fun k hk=>(ao k hk).2) ⟨ws,wf,wd⟩ (N d0 ⟨ws,wf,true⟩ s));have bf:=kQ d0;have av:=fun w μc hw (hle:MLe μ μc)=>xZ d0 w μc x0 hw (hx0.mono hle) (by omega);refine cI Tryz.func87 rfl Tryz.ntmps87 (by simp) hμ hO ?_;try repeat' (first|refine KZ ?_|refine NB fun b=>?_)
 rename_i bn bw;obtain⟨bv,an⟩:∃y,y=b:=⟨_,rfl⟩;rw[←an];clear an;refine AG (L' :=.inl ⟨bv,85,3,idx 0 (CL ⟨ws,wf,true⟩)⟩::.inl ⟨bw,85,3,idx 0 (CL ⟨ws,wf,wd⟩)⟩::.inl ⟨bn,24,6,idx 0 (cO t (.slice (some ad) t.kids.length c))⟩::FB xb cb hb db s q) (by repeat first|exact fH _|(refine fA ?_ ?_;focus(refine kZ.cells ?_;repeat first|exact gC|refine eS rfl ?_))) ?_;refine aZ 7 _ (by kernel_rfl) rfl (aD (aD (aD aT))) ?_;all_goals(refine DD 0 ?_;refine D1 1 ?_;refine DD 2 ?_;refine D2 3 rfl (by exact U1 0) ?_;refine D2 4 rfl (by exact U4 v) ?_;refine DD 5 ?_)
 all_goals(refine D3 6 ?_;refine D5 ?_;refine CF 65 ?_;refine tI 3 rfl rfl rfl EN rfl g (ap.1 xb cb hb db _ ⟨ws,wf,true⟩ s _ hx0 (aq.mono (by omega))) ?_;rintro v6 μ6 i6 aa g-;dsimp only[aU,aY];refine D9 ?_)
 all_goals refine D8 ?_
 try repeat' (refine KZ ?_)
 generalize N d0 ⟨ws,wf,true⟩ s=s1 at g i af z;refine aZ 6 _ (by kernel_rfl) rfl (aD (aD (aD aT))) ?_;all_goals(refine DD 0 ?_;refine D1 1 ?_;refine DD 2 ?_;refine D2 3 rfl (by((with_reducible apply lL 1);(iterate 4 exact rfl);omega;omega)) ?_;refine DD 4 ?_)
 all_goals(refine D3 5 ?_;refine D5 ?_;refine CF 41 ?_;refine tI 3 rfl rfl rfl EN rfl g (uD N (t.kids.drop 1) _ ⟨ws,wf,wd⟩ s1 _ xb cb hb db ao (a6.mono aa) af) ?_;rintro v7 μ7 i7 ai g-;dsimp only[aU,aY];refine D9 ?_)
 all_goals refine D8 ?_
 generalize vM N (t.kids.drop 1) ⟨ws,wf,wd⟩ s1=s2 at g i z;have p:=aa.trans ai;have v:=v.mono p;try repeat' (first|refine KO ?_|((with_reducible apply C3);exact rfl;exact EN;(exact fun w μc hw o=>av w μc hw (p.trans o.le));intro v2;(with_reducible apply fI 0);exact rfl;rintro A2 c2 rfl a8)|(refine KV (b:=by first|exact U1 0|exact U4 v) (c:=?_))|refine KZ ?_)
 refine qN rfl ?_;intro μ2 ba ag;have a7:=SsV.nH (xs:=bB d0) ag rfl rfl;obtain⟨A3,c3,e3,hS,bh⟩:=a7;cases e3;refine cD (ι:=Nat×FW) (fun j=>j.1≤(bB d0).length∧FR' j.2 (((bB d0).take j.1).foldl (xL ws) s2)) (fun j=>(bB d0).length-j.1) (fun _=>μ2) (fun j=>[(33,.int .i64 (j.1:Int)),(32,.int .i64 ((bB d0).length:Int)),(31,.slice A2 (bB d0).length c2),(5,.pointer (some ⟨bw,0,none⟩)),(0,.pointer (some ⟨xb,0,none⟩))]) (fun j=>.inl ⟨bw,85,3,idx 0 (CL ⟨ws,wf,wd⟩)⟩::FB xb cb hb db (((bB d0).take j.1).foldl (xL ws) s2) j.2) (0,i7) ⟨aN _,g⟩ (fun a w hs=>hs.sel PU (by repeat first|exact bY _ (bY _ (fH _))|(refine eB ?_ ?_;focus(exact kZ.refl _)))) ?_;rintro⟨j,q0⟩ ⟨hj,g⟩;dsimp only at hj g⊢;by_cases az:j< (bB d0).length
 ·obtain⟨ad3,y,rfl,hy,ax⟩:=hS.get az;have e:=lM (xL ws) (l:=s2) hy;have ae:=OH ws ((bB d0).take j) s2;generalize ((bB d0).take j).foldl (xL ws) s2=st at g e ae⊢;have f:=fun(w:World) (μc:Mem) (hw:MOk μc w) (h:∀y∈FB xb cb hb db st q0,Bk.sh y μc)=>aEe q0 st xb cb hb db g (by rw[ae];have:=z.sc.1;omega) (fun c hc=>z.2 c (by rw[←ae];exact hc)) ws y w μc hw h;have hg:xL ws st y=(match iD st.scopes ws y with|some (a,b)=>{ st with done:=iS ((a:Int),(b:Int)) ((gM (a:Int) st.cases).getD 0) st.done }|none=>st):=by unfold xL;rfl
  rw[hg]at e;refine lT (congrArg _ (mK xb cb hb db st q0)) ?_;try repeat' (first|refine KO ?_|(refine KV (b:=by first|exact U1 j|exact U3 (ax.at 0 rfl)) (c:=?_)))
  generalize iD st.scopes ws y=r at f e;cases r with
  | none=>
    dsimp only[yV]at f e;refine aZ 15 _ (by kernel_rfl) rfl (aD (aD (aD (aD (aD (aD (aD aT))))))) ?_;all_goals(refine DD 0 ?_;refine DD 1 ?_;refine DD 2 ?_;refine DD 3 ?_;refine DD 4 ?_;refine DD 5 ?_;refine DD 6 ?_)
    all_goals(refine D3 7 ?_;refine D5 ?_;(with_reducible apply F1 13);exact rfl;exact EN;exact fun w μc hw o=>f w μc hw (fun y hy=>o.own y (by repeat(first|exact hy|apply dF)));refine D9 ?_)
    all_goals(refine DD 8 ?_;refine DD 9 ?_;refine DD 10 ?_;refine DD 11 ?_;refine DD 12 ?_;refine DD 13 ?_;refine DD 14 ?_;refine D8 ?_)
    all_goals try repeat' (refine KZ ?_)
    all_goals exact cY (j+1,q0) ⟨by dsimp only;omega,by dsimp only;rw[e];exact g⟩ (by dsimp only;omega) rfl PU (by dsimp only;rw[e,mK];exact(by repeat exact fH _))
  | some ab=>
    obtain⟨a,k0⟩:=ab;dsimp only[yV]at f e;obtain⟨okc,ay⟩:=aP5 (P:=Tryz.prog) (et:=3) (by kernel_rfl) (a:Int) g.ca;obtain⟨es',ck',aw,ah⟩:=aTu (P:=Tryz.prog) (t:=57) (kt:=61) (et:=3) (by kernel_rfl) ((a:Int),(k0:Int)) (by kernel_rfl) ((gM (a:Int) st.cases).getD 0) g.dn q0.dc;refine aZ 15 _ (by kernel_rfl) rfl (aD (aD (aD (aD (aD (aD (aD aT))))))) ?_;all_goals(refine DD 0 ?_;refine DD 1 ?_;refine DD 2 ?_;refine DD 3 ?_;refine DD 4 ?_;refine DD 5 ?_;refine DD 6 ?_)
    all_goals(refine D3 7 ?_;refine D5 ?_;(with_reducible apply F1 13);exact rfl;exact EN;exact fun w μc hw o=>f w μc hw (fun y hy=>o.own y (by repeat(first|exact hy|apply dF)));refine D9 ?_)
    all_goals(refine DD 8 ?_;refine DD 9 ?_;refine DD 10 ?_;refine DD 11 ?_;refine DD 12 ?_;refine DD 13 ?_;refine DD 14 ?_;refine D8 ?_)
    all_goals try repeat' (refine KZ ?_)
    all_goals
     refine aZ 14 _ (by kernel_rfl) rfl (aD (aD (aD (aD (aD (aD (cP aT))))))) ?_;all_goals(refine DD 0 ?_;refine DD 1 ?_;refine D1 2 ?_;refine DD 3 ?_;refine DD 4 ?_;refine DD 5 ?_;refine DD 6 ?_;refine DD 7 ?_;refine DD 8 ?_;refine D1 9 ?_;refine DD 10 ?_;refine DD 11 ?_;refine D2 12 rfl (by((with_reducible apply oQ);(iterate 4 exact rfl);exact rfl;(repeat first|with_reducible exact sH|with_reducible apply sG);exact ay)) ?_)
     all_goals(refine D3 13 ?_;refine D5 ?_;(with_reducible apply aB6 (kv:=.agg (kP ((a:Int),(k0:Int))).toArray));(iterate 4 exact rfl);(repeat first|with_reducible exact uL|with_reducible apply wD);exact ah;refine D9 ?_)
     all_goals refine D8 ?_
    all_goals try repeat' (refine KZ ?_)
    all_goals exact cY (j+1,{ q0 with de:=es',dc:=ck' }) ⟨by dsimp only;omega,by dsimp only;rw[e];exact⟨g.sc,g.ca,g.hd,aw⟩⟩ (by dsimp only;omega) rfl PU (by dsimp only;rw[e,mK];exact(by repeat exact fH _))
 ·have a1:j=(bB d0).length:=by omega
  subst a1;rw[aK (aC _)]at g⊢;try repeat' (refine KZ ?_)
  all_goals exact nT 1 q0 (by exact .inr rfl) al rfl rfl i g
end Go.Proofs.YtlllalmkkaolfaaGreatDoor
