/- Package scope's reference: one and declared. -/
import Derived.Test.YtlllalmkkaolfaaGreatDoorUas
set_option maxRecDepth 20000
set_option maxHeartbeats 2000000
namespace Go.Proofs.YtlllalmkkaolfaaGreatDoor
section
open Go.RowKit Go.Vcg Go.MapKept
theorem aHm(k:Int)(x:ByteArray)(l:List Bd):dT k [x] l=jY x k l:=rfl
theorem aFb(t:T)(fs:Bool)(l:List Bd):bF [t] fs l=if t.op=2∧t.n≠0 then eM t l else if(jG t 1&&fs)=true then jY t.s 3 l else l:=rfl
attribute [local irreducible] jY dT bF dR dM anI jK iB G GC GQ GA eV Calls IntKind.wrap Int.decLt Int.decLe
theorem HH(t:T)(u lv:Value)(l:List Bd)(fs:Bool)(μ:Mem)(hk:KR μ t.kids u)(hw:dJ Vw t)(a6:t.size≤2000)(hl:l.length+t.size≤10000000):
 RC 112 [lv,.agg (cO t u).toArray,.bool fs] lv l (bF [t] fs l) μ:=by
 intro w hμ hO;have f:=dW hO.diff;have ou:=hk.one;have a7:=aS t;have au:=iG t.kids;obtain⟨A,c,rfl,hcap,ah⟩:=hk.form;generalize e:bF [t] fs l=l';rw[aFb]at e;refine cI Tryz.func112 rfl Tryz.ntmps112 (by simp) hμ hO ?_;refine gT 0 rfl ?_;rintro Al cl rfl bb;by_cases h2:t.op=2∧t.n≠0
 ·rw[if_pos h2]at e;obtain⟨h2,ao⟩:=h2;have hn:=hw.here.ks.vn h2;have hd:=hw.here.ks.kc.sub h2;unfold eM at e;try repeat' (first|refine KZ ?_|refine NB fun b=>?_)
  obtain⟨bn,ai⟩:∃y,y=b:=⟨_,rfl⟩;rw[←ai];clear ai;refine cD (ι:=Nat×Value×Mem) (fun q=>q.1≤t.kids.length∧MLe μ q.2.2) (fun q=>t.kids.length-q.1) (fun q=>q.2.2) (fun q=>[(7,.int .i64 (q.1:Int)),(4,.pointer (some ⟨bn,0,none⟩)),(2,.bool fs),(0,q.2.1)]) (fun q=>[mF q.2.1 ((t.kids.take q.1).foldl (fun l d=>dT t.n (bB (cQ d 0)) l) l),.inl ⟨bn,24,6,idx 0 (cO t (.slice A t.kids.length c))⟩]) (0,.slice Al l.length cl,μ) ⟨aN _,MLe.refl _⟩ (fun a w hs=>J5 hs) ?_;rintro⟨i,v,μi⟩ ⟨hi,hle⟩;dsimp only at hi hle⊢;by_cases hlt:i<t.kids.length
  ·obtain⟨d,p⟩:∃d,t.kids[i]? =some d:=⟨_,aA hlt⟩;obtain⟨ad,x,rfl,ar,ba,av⟩:=ah i d p;have ap:=ar.mono hle;have o:=aB p;have bf:=hd d o;have bd:d.size≤szs t.kids:=T.eL (List.mem_map.2 ⟨d,o,rfl⟩);have a8:=kK p;have aj:((t.kids.take i).foldl (fun l d=>dT t.n (bB (cQ d 0)) l) l).length≤l.length+szs (t.kids.take i):=by have:=oE ⟨t.op,t.at',t.n,t.m,t.s,t.kids.take i⟩ l;unfold eM at this;exact this
   have g:=lM (fun l d=>dT t.n (bB (cQ d 0)) l) (l:=l) p;generalize (t.kids.take i).foldl (fun l d=>dT t.n (bB (cQ d 0)) l) l=acc at aj g⊢;obtain⟨A0,c0,rfl,ax,ae⟩:=(av.mono hle).form;obtain⟨d0,r⟩:∃d0,d.kids[0]? =some d0:=⟨_,aA (by omega)⟩;obtain⟨ad0,x0,rfl,aq,ay,ag⟩:=ae 0 d0 r;have aw:=jE r;rw[aw]at g;have a1:=T.fY r;have bc:=kQ d0;have ak:dJ Vp d0:=((hw.kid o).kid (aB r)).imp' fun t h=>h.vp;have an:=fun w μc hw (hle:MLe μi μc)=>tD d0 w μc x0 hw (ag.mono hle) (by omega) ak;try repeat' (refine KZ ?_)
   refine aZ 14 _ (by kernel_rfl) rfl (cP (aD aT)) ?_;all_goals(refine DD 0 ?_;refine D1 1 ?_;refine DD 2 ?_;refine DD 3 ?_;refine D2 4 rfl (by exact U1 i) ?_;refine DD 5 ?_;refine D2 6 rfl (by exact U4 ap) ?_;refine D2 7 rfl (by exact U1 0) ?_;refine D2 8 rfl (by exact U4 aq) ?_;refine D1 10 ?_;refine DD 11 ?_)
   all_goals(refine D3 9 ?_;refine D5 ?_;(((with_reducible apply F3 74);exact rfl;exact EN;exact fun w μc hw al=>an w μc hw al.le;intro v2;(with_reducible apply fI 0);exact rfl;rintro A2 c2 rfl az;refine pG rfl ?_;intro μ2 aa j;have af:=SsV.nH (xs:=bB d0) j rfl rfl));refine D9 ?_)
   all_goals(refine D3 12 ?_;refine D5 ?_;(refine CF 113 ?_;(with_reducible apply rI 0);(iterate 3 exact rfl);exact EN;exact rfl;exact wV acc _ _ (bB d0) t.n _ af (by omega);intro v4 μ4 z;dsimp only[fT]);refine D9 ?_)
   all_goals(refine DD 13 ?_;refine D8 ?_)
   all_goals try repeat' (refine KZ ?_)
   all_goals rw[←g]
   all_goals exact J2 (i+1,v4,μ4) ⟨by dsimp only;omega,(hle.trans aa).trans z⟩ (by dsimp only;omega)
  ·obtain rfl:i=t.kids.length:=by omega
   rw[aK (aC _)];try repeat' (refine KZ ?_)
   all_goals refine gO (L' :=[_]) (fA (.refl _) (.nil _)) ?_
   all_goals exact oJ f rfl (cX rfl) rfl e
 rw[if_neg h2]at e;have ao:t.op=2→t.n=0:=fun h=>by
  by_cases h0:t.n=0
  ·exact h0
  ·exact absurd ⟨h,h0⟩ h2
 by_cases h4:(jG t 1&&fs)=true
 ·rw[if_pos h4,←aHm]at e;rw[aM]at h4;obtain⟨h4,rfl⟩:=h4;unfold jG at h4;rw[aM]at h4;have ab:=of_decide_eq_true h4.1;have hb:=(VG (hw.here.fl ab)).1.1 (of_decide_eq_true h4.2);try repeat' (first|refine KO ?_|(refine CF 113 ?_;(with_reducible apply RI (xs:=[Value.string t.s]) 1 1);exact rfl;exact rfl;(decide);refine pG rfl ?_;intro μ2 aa j;have af:=SsV.nH (xs:=[t.s]) j rfl rfl;(with_reducible apply rI 1);(iterate 3 exact rfl);exact EN;exact rfl;exact wV l _ _ [t.s] 3 _ af (by simp;omega);intro v4 μ4 z;dsimp only[fT])|refine KZ ?_|refine NB fun b=>?_)
  all_goals refine gO (L' :=[_]) (eB (.refl _) (.nil _)) ?_
  all_goals exact oJ f rfl (cX rfl) rfl e
 ·rw [if_neg h4]at e;have hb:fs=true→t.op=4→¬t.n.tmod 2=1:=fun hf ho h=>h4 (by
   rw[hf,iY];unfold jG;rw[decide_eq_true ho,decide_eq_true ((VG (hw.here.fl ho)).1.2 h)];rfl)
  by_cases ab:t.op=4
  ·cases fs with
   | false=>
     try repeat' (first|refine KZ ?_|refine NB fun b=>?_|(refine KB ?_ ?_<;>intro hp))
     all_goals refine gO (L' :=[_]) (eB (.refl _) (.nil _)) ?_
     all_goals exact oJ f rfl (cX rfl) rfl e
   | true=>
     have hb:=hb rfl ab;try repeat' (first|refine KZ ?_|refine NB fun b=>?_)
     all_goals refine gO (L' :=[_]) (eB (.refl _) (.nil _)) ?_
     all_goals exact oJ f rfl (cX rfl) rfl e
  ·try repeat' (first|refine KZ ?_|refine NB fun b=>?_|(refine KB ?_ ?_<;>intro hp))
   all_goals refine gO (L' :=[_]) (eB (.refl _) (.nil _)) ?_
   all_goals exact oJ f rfl (cX rfl) rfl e
theorem DB(kids:List T)(fs:Bool)(kv lv:Value)(l:List Bd)(μ:Mem)(hk:KR μ kids kv)(hw:∀k∈kids,dJ Vw k)(ae:szs kids≤2000)(hl:l.length+szs kids≤10000000):
 RC 110 [lv,kv,.bool fs] lv l (bF kids fs l) μ:=by
 intro w hμ hO;have r:=dW hO.diff;have z:=iG kids;obtain⟨A,c,rfl,hcap,p⟩:=hk.form;generalize aa:bF kids fs l=l';have g:∀(i:Nat) (d:T),kids[i]? =some d→bF (kids.take (i+1)) fs l=bF [d] fs (bF (kids.take i) fs l):=fun i d h=>by unfold bF;exact lM _ h
 refine cI Tryz.func110 rfl Tryz.ntmps110 (by simp) hμ hO ?_;refine gT 0 rfl ?_;rintro Al cl rfl ah;try repeat' (refine KZ ?_)
 refine cD (ι:=Nat×Value×Mem) (fun q=>q.1≤kids.length∧MLe μ q.2.2) (fun q=>kids.length-q.1) (fun q=>q.2.2) (fun q=>[(7,.int .i64 (q.1:Int)),(1,.slice A kids.length c),(2,.bool fs),(0,q.2.1)]) (fun q=>[mF q.2.1 (bF (kids.take q.1) fs l)]) (0,.slice Al l.length cl,μ) ⟨aN _,MLe.refl _⟩ (fun a w hs=>by
  dsimp only;rw[jW,show bF [] fs l=l by unfold bF;rfl];exact hs.sel PU (fH _)) ?_
 rintro⟨i,v,μi⟩ ⟨hi,hle⟩;dsimp only at hi hle⊢;by_cases hlt:i<kids.length
 ·obtain⟨d,f⟩:∃d,kids[i]? =some d:=⟨_,aA hlt⟩;obtain⟨ad,x,rfl,y,ag,ab⟩:=p i d f;have u:=y.mono hle;have j:=aB f;have af:=kK f;have t:=jO (kids.take i) fs l;have e:=g i d f;generalize bF (kids.take i) fs l=acc at t e⊢;have hone:=HH d x v acc fs μi (ab.mono hle) (hw d j) (by omega) (by omega);rw[←e]at hone;try repeat' (first|refine KO ?_|(refine CF 112 ?_;(with_reducible apply rI 0);(iterate 3 exact rfl);exact EN;exact rfl;(exact hone);(intro v4 μ4 o);(dsimp only[fT]))|(refine KV (b:=by first|exact U1 i|exact U4 u) (c:=?_))|refine KZ ?_)
  all_goals exact cY (i+1,v4,μ4) ⟨by dsimp only;omega,hle.trans o⟩ (by dsimp only;omega) rfl PU (fH _)
 ·obtain rfl:i=kids.length:=by omega
  rw[aK (aC _)];try repeat' (refine KZ ?_)
  all_goals exact oJ r rfl (cX rfl) rfl aa
end
section
open Go.RowKit Go.Vcg Go.MapKept
structure GV (E:List Fl):Prop where
 len:E.length≤2000
 last:∀(i:Nat) (e:Fl),E[i]? =some e→i≤e.last∧e.last<E.length
 vw:∀e∈E,dJ Vw e.t
 sz:∀e∈E,e.t.size≤2000
 up:∀(i:Nat) (e:Fl),E[i]? =some e→ -1≤e.up∧e.up<i
theorem FLs.len{μ:Mem}{E:List Fl}{v:Value}{es:List (Fl×Value)}(h:FLs μ E v es):es.length=E.length:=by rw[←h.keys,aO]
theorem FLs.get{μ:Mem}{E:List Fl}{A:Option Addr}{n c:Nat}{es:List (Fl×Value)}(h:FLs μ E (.slice A n c) es){i:Nat}(hi:i<E.length):∃ad e u,A=some ad∧E[i]? =some e∧aH E i=e∧gF μ (ad.add (i*11)) [.int .i64 e.t.op,.int .i64 e.t.at',.int .i64 e.t.n,.int .i64 e.t.m,.string e.t.s,u,.int .i64 e.up,.int .i64 (e.kid:Int),.int .i64 (e.fn:Int),.int .i64 (e.num:Int),.int .i64 (e.last:Int)]∧gF μ (ad.add (i*11)) (cO e.t u)∧KR μ e.t.kids u:=by
 obtain⟨⟨A,c,e,f⟩,hk,hf⟩:=h;cases e;have hl:es.length=E.length:=by rw[←hk,aO]
 obtain⟨ad,y,rfl,a,hm⟩:=f.get (show i<es.length by omega);have he:E[i]? =some y.1:=by rw[←hk,aX,a];rfl
 refine⟨ad,y.1,y.2,rfl,he,by unfold aH;rw[he];rfl,hm,fun j v b=>hm j v ?_,hf y (aB a)⟩;unfold pM;rw[aV (List.getElem?_eq_some_iff.1 b).1];exact b
theorem FLs.form{μ:Mem}{E:List Fl}{v:Value}{es:List (Fl×Value)}(h:FLs μ E v es):∃A c,v=.slice A E.length c:=by
 have hl:=h.len;obtain⟨⟨A,c,e,-⟩,-,-⟩:=h;exact⟨A,c,by rw[e,hl]⟩
theorem oY{α:Type}(g:α→Nat→α)(i m:Nat)(l:α):foldI g i (m+1) l=g (foldI g i m l) (i+m):=by rw[kR];rfl
theorem VF(E:List Fl)(m top:Nat)(sh:Bool)(l:List Bd)(i:Nat):(gK E m top sh l i).length≤l.length+2*(aH E i).t.size:=by
 have hv:=oE (aH E i).t l;have a:=aS (aH E i).t;have h1:(if(aH E i).fn=m then wP (aH E i).t l else l).length≤l.length+ (aH E i).t.size:=by
  split
  ·unfold wP;split
   ·omega
   ·omega
  ·omega
 have h2:=jO [(aH E i).t] true (if(aH E i).fn=m then wP (aH E i).t l else l);have h3:szs [(aH E i).t]=(aH E i).t.size:=by simp[szs]
 unfold gK;dsimp only;split
 ·omega
 ·omega
theorem JK{E:List Fl}(b:GV E)(m top:Nat)(sh:Bool)(a:Nat)(l:List Bd):∀k:Nat,(foldI (gK E m top sh) a k l).length≤l.length+4000*k
 |0=>by rw[foldI];omega
 | k+1=>by
   have h1:=JK b m top sh a l k;have h2:=VF E m top sh (foldI (gK E m top sh) a k l) (a+k);have h3:(aH E (a+k)).t.size≤2000:=by
    unfold aH;cases he:E[a+k]? with
    |none=>exact dU (Nat.le_of_eq T.PT) (by omega)
    |some e=>exact b.sz e (aB he)
   rw[oY];omega
attribute [local irreducible] gK EW foldI pM aH
attribute [local irreducible] jY dT eM bF dR dM anI jK iB G GC GQ GA eV Calls IntKind.wrap Int.decLt Int.decLe
theorem aA7(E:List Fl)(fv:Value)(es:List (Fl×Value))(a:Nat)(μ:Mem)(hF:FLs μ E fv es)(ab:GV E)(ha:a<E.length)(h4:(aH E a).t.op=4):
 PRC 111 [fv,.int .i64 (a:Int)] (JV E a) μ:=by
 intro w hμ hO;have b4:=dW hO.diff;obtain⟨A0,cA,rfl⟩:=hF.form;obtain⟨adA,e,u,rfl,bg,b2,a8,bt,bb⟩:=hF.get ha;have cm:=ab.last a e bg;have au:=ab.vw e (aB bg);have cd:=ab.sz e (aB bg);have dn:=ab.len;rw[b2]at h4;have bj:=au.here.ks.kc.two (.inl h4);have b1:=au.here.fl h4;have ao:jG e.t 128=false↔(IntKind.i64.wrap (e.t.n.tdiv 128)).tmod 2=0:=by
  have h2:=(VG b1).2;unfold jG;rw[decide_eq_true h4,bR,decide_eq_false_iff_not];constructor
  ·intro h;by_cases h0:(IntKind.i64.wrap (e.t.n.tdiv 128)).tmod 2=0
   ·exact h0
   ·exact absurd (h2.2 h0) h
  ·intro h h3;exact h2.1 h3 h
 generalize ae:JV E a=l';unfold JV at ae;rw[b2]at ae;obtain⟨t,up,kid,fn,num,last⟩:=e;dsimp only at cm au cd h4 bj b1 ao ae bb a8 bt;have ou:=bb.one;obtain⟨Ak,ck,rfl,c0,bd⟩:=bb.form;obtain⟨d0,ay⟩:∃d0,t.kids[0]? =some d0:=⟨_,aA (by omega)⟩;obtain⟨ad0,x0,rfl,ch,dc,bw⟩:=bd 0 d0 ay;have cq:=jE ay;rw[cq]at ae;have di:=T.fY ay;have dm:=kQ d0;have cb:dJ Vp d0:=(au.kid (aB ay)).imp' fun t h=>h.vp;have cf:=fun w μc hw (hle:MLe μ μc)=>tD d0 w μc x0 hw (bw.mono hle) (by omega) cb;refine cI Tryz.func111 rfl Tryz.ntmps111 (by simp) hμ hO ?_;try repeat' (first|((with_reducible show GC _ _ (Code.seq (Code.block _ _) _) _ _ _ _);(apply dX))|refine KO ?_|((with_reducible apply F3 74);exact rfl;exact EN;(exact fun w μc hw a6=>cf w μc hw a6.le);intro v2;(with_reducible apply fI 0);exact rfl;(rintro A2 c2 rfl bp);(refine pG rfl ?_);(intro μ2 al bo);(have c7:=SsV.nH (xs:=bB d0) bo rfl rfl))|(refine CF 113 ?_;(refine sV 40 4 ?_);(with_reducible apply rI (bl:=([]:List Bd)) 0);(iterate 3 exact rfl);exact EN;exact rfl;(exact wV [] _ _ (bB d0) 4 _ c7 (by simp;omega));(intro v4 μ4 ak);(dsimp only[fT]))|(refine KV (b:=by first|exact U1 a|exact U1 0|exact U4 bt|exact U4 ch) (c:=?_))|refine KZ ?_|refine NB fun b=>?_)
 obtain⟨bn,b6⟩:∃y,y=b:=⟨_,rfl⟩;rw[←b6];clear b6;have c8:=hF.mono (al.trans ak);have b7:=oI 4 (bB d0) [];rw[bM,bG]at b7;generalize dv:dT 4 (bB d0) []=acc0 at ae b7⊢;obtain⟨T0,bi⟩:∃T0,EW E a last (last-a) (a+1)=T0:=⟨_,rfl⟩;rw[bi]at ae;have az:∀f k,EW E a last (f+1) k=if k≤last∧¬((aH E k).up=a∧(aH E k).kid=1)then EW E a last f (k+1)else k:=fun f k=>by rw[EW]
 have ag:∀k,EW E a last 0 k=k:=fun k=>by rw[EW]
 refine gcs ?_;refine iT (ι:=Unit) (fun _=>True) (fun _=>μ4) (fun _=>[(0,.slice (some adA) E.length cA),(1,.int .i64 (a:Int)),(5,.pointer (some ⟨bn,0,none⟩)),(6,v4),(7,.int .i64 (T0:Int))]) (fun _=>[mF v4 acc0,.inl ⟨bn,24,6,idx 0 (cO t (.slice (some ad0) t.kids.length ck))⟩]) ?_ ?_
 ·try repeat' (refine KZ ?_)
  refine cD (ι:=Nat) (fun k=>a+1≤k∧k≤last+1∧EW E a last (last+1-k) k=T0) (fun k=>last+1-k) (fun _=>μ4) (fun k=>[(0,.slice (some adA) E.length cA),(1,.int .i64 (a:Int)),(5,.pointer (some ⟨bn,0,none⟩)),(6,v4),(7,.int .i64 (k:Int))]) (fun _=>[mF v4 acc0,.inl ⟨bn,24,6,idx 0 (cO t (.slice (some ad0) t.kids.length ck))⟩]) (a+1) ⟨aC _,by omega,by rw[show last+1- (a+1)=last-a by omega];exact bi⟩ (fun a w hs=>J5 hs) ?_;rintro k ⟨dr,dq,aa⟩;have af:=a8.mono (al.trans ak);by_cases cp:k≤last
  ·obtain⟨ad9,ek,uk,e9,dt,cv,av,de,-⟩:=c8.get (show k<E.length by omega);cases e9;obtain⟨f,hf⟩:∃f,last+1-k=f+1:=⟨last-k,by omega⟩;rw[hf,az,cv]at aa;obtain⟨kt,kup,kkid,kfn,knum,klast⟩:=ek;dsimp only at av aa;by_cases hs:kup=a∧kkid=1
   ·rw[if_neg (fun h=>h.2 hs)]at aa;obtain⟨rfl,rfl⟩:=hs;subst aa;try repeat' (first|refine KO ?_|(refine KV (b:=by first|exact U1 k|exact U1 a|exact U4 av|exact U4 af) (c:=?_))|refine KZ ?_)
    all_goals exact J1 () trivial
   ·rw[if_pos ⟨cp,hs⟩]at aa;have b0:EW E a last (last+1- (k+1)) (k+1)=T0:=by rw[show last+1- (k+1)=f by omega];exact aa
    by_cases hu:kup=a
    ·have dp:¬(kkid:Int)=1:=fun h=>hs ⟨hu,by omega⟩;try repeat' (first|refine KO ?_|(refine KV (b:=by first|exact U1 k|exact U1 a|exact U4 av|exact U4 af) (c:=?_))|refine KZ ?_)
     all_goals exact J2 (k+1) ⟨by omega,by omega,b0⟩ (by omega)
    ·try repeat' (first|refine KO ?_|(refine KV (b:=by first|exact U1 k|exact U1 a|exact U4 av|exact U4 af) (c:=?_))|refine KZ ?_)
     all_goals exact J2 (k+1) ⟨by omega,by omega,b0⟩ (by omega)
  ·rw[show last+1-k=0 by omega,ag]at aa;subst aa;try repeat' (first|refine KO ?_|(refine KV (b:=by first|exact U1 a|exact U4 af) (c:=?_))|refine KZ ?_)
   all_goals exact J1 () trivial
 rintro⟨⟩-;clear bi az ag;have b8:=fun k=>JK ab num T0 (jG t 128) (a+1) acc0 k;have cc:=fun k=>oY (gK E num T0 (jG t 128)) (a+1) k acc0;have c9:foldI (gK E num T0 (jG t 128)) (a+1) 0 acc0=acc0:=by rw[foldI]
 try repeat' (refine KZ ?_)
 refine cD (ι:=Nat×Value×Mem) (fun q=>a+1≤q.1∧q.1≤last+1∧MLe μ4 q.2.2) (fun q=>last+1-q.1) (fun q=>q.2.2) (fun q=>[(0,.slice (some adA) E.length cA),(1,.int .i64 (a:Int)),(5,.pointer (some ⟨bn,0,none⟩)),(6,q.2.1),(7,.int .i64 (T0:Int)),(8,.int .i64 (q.1:Int))]) (fun q=>[mF q.2.1 (foldI (gK E num T0 (jG t 128)) (a+1) (q.1- (a+1)) acc0),.inl ⟨bn,24,6,idx 0 (cO t (.slice (some ad0) t.kids.length ck))⟩]) (a+1,v4,μ4) ⟨aC _,by dsimp only;omega,MLe.refl _⟩ (fun a9 w hs=>by
  dsimp only;rw[cK,c9];exact J5 hs) ?_
 rintro⟨i,vb,μ5⟩ ⟨ct,cs,z⟩;dsimp only at ct cs z⊢;have an:=(al.trans ak).trans z;have r:=a8.mono an;have c4:=b8 (i- (a+1));by_cases ds:i≤last
 ·obtain⟨ad9,ei,ui,e9,b3,cw,aw,a1,ax⟩:=(hF.mono an).get (show i<E.length by omega);cases e9;have ar:=ab.vw ei (aB b3);have bk:=ab.sz ei (aB b3);have p:=cc (i- (a+1));rw[show a+1+ (i- (a+1))=i by omega,show i- (a+1)+1=i+1- (a+1)by omega]at p;generalize foldI (gK E num T0 (jG t 128)) (a+1) (i- (a+1)) acc0=acc at p c4⊢;rw[show gK E num T0 (jG t 128) acc i=(let l1:=if(aH E i).fn=num then wP (aH E i).t acc else acc;if(aH E i).up=T0∧jG t 128=false then bF [(aH E i).t] true l1 else l1)by unfold gK;rfl,cw]at p;have ca:=oE ei.t acc;obtain⟨it,iup,ikid,ifn,inum,ilast⟩:=ei;dsimp only at aw a1 ar bk p ax ca;obtain⟨acc1,g⟩:∃x,(if ifn=num then wP it acc else acc)=x:=⟨_,rfl⟩;rw[g]at p;have da:=aS it;have cl:acc1.length≤acc.length+2000:=by
   rw[←g];split
   ·unfold wP;split
    ·omega
    ·omega
   ·omega
  have oui:=ax.one;try repeat' (first|((with_reducible show GC _ _ (Code.seq (Code.seq (Code.region 10 _ _) _) _) _ _ _ _);(apply dX))|refine KO ?_|(refine KV (b:=by first|exact U1 i|exact U1 a|exact U4 r|exact U4 a1) (c:=?_))|refine KZ ?_|refine NB fun b=>?_)
  obtain⟨bx,b5⟩:∃y,y=b:=⟨_,rfl⟩;rw[←b5];clear b5;refine gcs (iT (ι:=Value×Mem) (fun q=>MLe μ5 q.2) (fun q=>q.2) (fun q=>[(0,.slice (some adA) E.length cA),(1,.int .i64 (a:Int)),(5,.pointer (some ⟨bn,0,none⟩)),(6,q.1),(7,.int .i64 (T0:Int)),(8,.int .i64 (i:Int)),(9,.pointer (some ⟨bx,0,none⟩))]) (fun q=>[mF q.1 acc1,.inl ⟨bn,24,6,idx 0 (cO t (.slice (some ad0) t.kids.length ck))⟩,.inl ⟨bx,24,6,idx 0 (cO it ui)⟩]) ?_ ?_)
  ·by_cases hc:it.op=2∧it.n=0∧ifn=num
   ·obtain⟨h2,h0,rfl⟩:=hc;rw[if_pos rfl]at g;unfold wP at g;rw[if_pos ⟨h2,h0⟩]at g;unfold eM at g;rw[h0]at g;have cx:=ar.here.ks.kc.sub h2;obtain⟨Ai,ci,rfl,c1,bf⟩:=ax.form;have cj:=iG it.kids;try repeat' (refine KZ ?_)
    refine aZ 21 _ (by kernel_rfl) rfl (aD (aD (aD aT))) ?_;all_goals(refine D1 0 ?_;refine DD 1 ?_;refine D1 2 ?_;refine DD 3 ?_)
    all_goals(try(refine D7 4 ?_;(repeat' (refine KO ?_))))
    all_goals(refine D1 4 ?_;refine DD 5 ?_;refine D1 6 ?_;refine DD 7 ?_;refine DD 8 ?_)
    all_goals(try(refine D7 9 ?_;(repeat' (refine KO ?_))))
    all_goals(refine DD 9 ?_;refine DD 10 ?_;refine D2 11 rfl (by exact U1 i) ?_;refine DD 12 ?_;refine D2 13 rfl (by exact U4 aw) ?_;refine DD 14 ?_;refine DD 15 ?_;refine D2 16 rfl (by exact U1 a) ?_;refine DD 17 ?_;refine D2 18 rfl (by exact U4 r) ?_;refine D1 19 ?_;refine DD 20 ?_;refine D8 ?_)
    all_goals try repeat' (refine KZ ?_)
    refine cD (ι:=Nat×Value×Mem) (fun q=>q.1≤it.kids.length∧MLe μ5 q.2.2) (fun q=>it.kids.length-q.1) (fun q=>q.2.2) (fun q=>[(10,.int .i64 (q.1:Int)),(0,.slice (some adA) E.length cA),(1,.int .i64 (a:Int)),(5,.pointer (some ⟨bn,0,none⟩)),(6,q.2.1),(7,.int .i64 (T0:Int)),(8,.int .i64 (i:Int)),(9,.pointer (some ⟨bx,0,none⟩))]) (fun q=>[mF q.2.1 ((it.kids.take q.1).foldl (fun l d=>dT 0 (bB (cQ d 0)) l) acc),.inl ⟨bn,24,6,idx 0 (cO t (.slice (some ad0) t.kids.length ck))⟩,.inl ⟨bx,24,6,idx 0 (cO it (.slice Ai it.kids.length ci))⟩]) (0,vb,μ5) ⟨aN _,MLe.refl _⟩ (fun a w hs=>J5 hs) ?_;rintro⟨j,v7,μ7⟩ ⟨hj,v⟩;dsimp only at hj v⊢;by_cases cr:j<it.kids.length
    ·obtain⟨y,ap⟩:∃d,it.kids[j]? =some d:=⟨_,aA cr⟩;obtain⟨ady,xy,rfl,bs,dl,cn⟩:=bf j y ap;have cg:=bs.mono v;have ai:=aB ap;have du:=cx y ai;have dj:y.size≤szs it.kids:=T.eL (List.mem_map.2 ⟨y,ai,rfl⟩);have dk:=kK ap;have bh:((it.kids.take j).foldl (fun l d=>dT 0 (bB (cQ d 0)) l) acc).length≤acc.length+szs (it.kids.take j):=by have:=oE ⟨it.op,it.at',0,it.m,it.s,it.kids.take j⟩ acc;unfold eM at this;exact this
     have ad:=lM (fun l d=>dT 0 (bB (cQ d 0)) l) (l:=acc) ap;generalize (it.kids.take j).foldl (fun l d=>dT 0 (bB (cQ d 0)) l) acc=acc9 at bh ad⊢;obtain⟨Ay,cy,rfl,cz,bc⟩:=(cn.mono v).form;obtain⟨y0,aq⟩:∃d0,y.kids[0]? =some d0:=⟨_,aA (by omega)⟩;obtain⟨ady0,xy0,rfl,br,db,bu⟩:=bc 0 y0 aq;have ba:=jE aq;rw[ba]at ad;have dh:=T.fY aq;have dd:=kQ y0;have b9:dJ Vp y0:=((ar.kid ai).kid (aB aq)).imp' fun t h=>h.vp;have bq:=fun w μc hw (hle:MLe μ7 μc)=>tD y0 w μc xy0 hw (bu.mono hle) (by omega) b9;try repeat' (first|refine KO ?_|((with_reducible apply F3 74);exact rfl;exact EN;(exact fun w μc hw a6=>bq w μc hw a6.le);intro v2;(with_reducible apply fI 0);exact rfl;(rintro A2 c2 rfl bp);(refine pG rfl ?_);(intro μ6 o bm);(have c6:=SsV.nH (xs:=bB y0) bm rfl rfl))|(refine CF 113 ?_;(with_reducible apply rI 0);(iterate 3 exact rfl);exact EN;exact rfl;(exact wV acc9 _ _ (bB y0) 0 _ c6 (by omega));(intro v8 μ8 aj);(dsimp only[fT]))|(refine KV (b:=by first|exact U1 j|exact U1 0|exact U4 cg|exact U4 br) (c:=?_))|refine KZ ?_)
     all_goals rw[←ad]
     all_goals exact J2 (j+1,v8,μ8) ⟨by dsimp only;omega,(v.trans o).trans aj⟩ (by dsimp only;omega)
    ·obtain rfl:j=it.kids.length:=by omega
     rw[aK (aC _),g];try repeat' (refine KZ ?_)
     all_goals exact J1 (v7,μ7) v
   ·have a7:acc1=acc:=by
     rw[←g];split
     ·rename_i cu;unfold wP;rw[if_neg (fun h=>hc ⟨h.1,h.2,cu⟩)]
     ·rfl
    rw[a7];try repeat' (refine KZ ?_)
    refine aZ 21 _ (by kernel_rfl) rfl (aD (aD (aD aT))) ?_;all_goals(refine D1 0 ?_;refine DD 1 ?_;refine D1 2 ?_;refine DD 3 ?_)
    all_goals(try(refine D7 4 ?_;(repeat' (refine KB ?_ ?_<;>intro hp))))
    all_goals(refine D1 4 ?_;(first|refine D1 5 ?_|refine DD 5 ?_);refine D1 6 ?_;refine DD 7 ?_;refine DD 8 ?_)
    all_goals(try(refine D7 9 ?_;(repeat' (refine KB ?_ ?_<;>intro hp))))
    all_goals(refine DD 9 ?_;refine DD 10 ?_;(first|refine D1 11 ?_|(refine D2 11 rfl (by exact U1 i) ?_));(first|refine D1 12 ?_|refine DD 12 ?_);(first|refine D1 13 ?_|(refine D2 13 rfl (by exact U4 aw) ?_));refine DD 14 ?_;refine DD 15 ?_;(first|refine D1 16 ?_|(refine D2 16 rfl (by exact U1 a) ?_));(first|refine D1 17 ?_|refine DD 17 ?_);(first|refine D1 18 ?_|(refine D2 18 rfl (by exact U4 r) ?_));refine D1 19 ?_;refine DD 20 ?_;refine D8 ?_)
    all_goals try repeat' (refine KZ ?_)
    all_goals exact J1 (vb,μ5) (MLe.refl _)
  ·rintro⟨v6,μ6⟩ o;dsimp only at o⊢;have ah:=aw.mono o;have df:=r.mono o;have bz:=ax.mono o;by_cases hc:iup=T0∧jG t 128=false
   ·rw[if_pos hc]at p;obtain⟨hup,hb⟩:=hc;have hb:=ao.1 hb;have hone:=HH it ui v6 acc1 true μ6 bz ar bk (by omega);rw[←p]at hone;try repeat' (first|refine KO ?_|(refine CF 112 ?_;(with_reducible apply rI 0);(iterate 3 exact rfl);exact EN;exact rfl;(exact hone);(intro v8 μ8 aj);(dsimp only[fT]))|(refine KV (b:=by first|exact U1 i|exact U4 ah|((with_reducible apply VS);exact rfl;exact rfl;decide)) (c:=?_))|refine KZ ?_)
    all_goals exact J2 (i+1,v8,μ8) ⟨by dsimp only;omega,by dsimp only;omega,(z.trans o).trans aj⟩ (by dsimp only;omega)
   ·rw[if_neg hc]at p;have hb:iup=T0→¬(IntKind.i64.wrap (t.n.tdiv 128)).tmod 2=0:=fun h h2=>hc ⟨h,ao.2 h2⟩;rw[←p];by_cases hup:iup=T0
    ·have hb:=hb hup;try repeat' (first|refine KO ?_|(refine KV (b:=by first|exact U1 i|exact U4 ah|((with_reducible apply VS);exact rfl;exact rfl;decide)) (c:=?_))|refine KZ ?_)
     all_goals exact J2 (i+1,v6,μ6) ⟨by dsimp only;omega,by dsimp only;omega,z.trans o⟩ (by dsimp only;omega)
    ·try repeat' (first|refine KO ?_|(refine KV (b:=by first|exact U1 i|exact U4 ah) (c:=?_))|refine KZ ?_)
     all_goals exact J2 (i+1,v6,μ6) ⟨by dsimp only;omega,by dsimp only;omega,z.trans o⟩ (by dsimp only;omega)
 ·obtain rfl:i=last+1:=by omega
  rw[show last+1- (a+1)=last-a by omega,ae];try repeat' (first|refine KO ?_|(refine KV (b:=by first|exact U1 a|exact U4 r) (c:=?_))|refine KZ ?_)
  all_goals refine gO (L' :=[_]) (fA (.refl _) (.nil _)) ?_
  all_goals exact oJ b4 rfl (cX rfl) rfl rfl
end
section
open Go.RowKit Go.Vcg Go.MapKept
def PRN(f:FuncId)(args:List Value)(r:List Bd×Int)(μ:Mem):Prop:=∀(w:World),MOk μ w→Go.Vcg.Own μ [] w→
 Calls Tryz.prog f args.toArray w fun e w' =>∃(v:Value) (μ' :Mem) (i:Value),e=.returned v∧mW (lH []) w w' μ [mF i r.1] μ' ∧v=.tuple #[i,.int .i64 r.2]
theorem YY{X:Ctx}{ops:Array Oper}{Q:Exit→Act→World→Prop}{rest:List Oper}{μ:Mem}{l:bS}{L:List Bk}{o:Oper}{d:Nat}{f:FuncId}{args:List Value}{r:List Bd×Int}(hd:o.dst=some d)(hn:Nat.blt d X.n=true)(hw:iF ops l o=some true)(hr:Ent Tryz.prog μ l L o f args.toArray)(hc:PRN f args r μ)
 (h:∀(v:Value) (μ' :Mem),MLe μ μ' →G Tryz.prog X ops Q rest μ' ((d,.tuple #[v,.int .i64 r.2])::l) (mF v r.1::L)):G Tryz.prog X ops Q (o::rest) μ l L:=
 oU (LB:=[]) (Lr:=L) (Ls:=fun j=>[mF j r.1]) (Post:=fun _ v j=>v=.tuple #[j,.int .i64 r.2]) 0 hd hn hw hr rfl (fun w hμ b=>hc w hμ b) fun v μ' j hle a=>by subst a;exact h j μ' hle
theorem pE{P:Program}{μ:Mem}{l:bS}{L:List Bk}{w:World}{fn:Func}{n:Nat}{rs:List ResultVar}{lv:Value}{k:Int}{μ0:Mem}{M:List Nat}{bl:List Bd}{r:List Bd×Int}(a:∀D,M.count D≤1)(hr:fn.results=rs.toArray)(h:RVs P μ l L rs [lv,.int .i64 k])(hL:iI L 0=some (mF lv bl))(hb:(bl,k)=r):
 GQ ⟨w,μ0,M,n⟩ (bodyPost P fn (fun e w' =>∃(v:Value) (μ' :Mem) (i:Value),e=.returned v∧mW M w w' μ0 [mF i r.1] μ' ∧v=.tuple #[i,.int .i64 r.2])) .ret μ l L:=by
 subst hb;cases L with
 |nil=>cases hL
 | cons y L=>
   cases hL;exact MD (Ls:=fun i=>[mF i bl]) (Post:=fun _ v i=>v=.tuple #[i,.int .i64 k]) 1 lv a hr h rfl rfl rfl (fun _ _=>rfl)
theorem aH8(k:Int):kT ([]:List Bd) k=([],-1):=rfl
theorem ZE:∀ks:List T,(ks.foldl (fun l k=>bF k.kids true l) ([]:List Bd)).length≤szs ks:=by
 have h:∀(ks:List T) (l:List Bd),(ks.foldl (fun l k=>bF k.kids true l) l).length≤l.length+szs ks:=by
  intro ks;induction ks with
  |nil=>intro l;exact Nat.le_add_right _ _
  | cons k r ih=>
    intro l;have h1:=ih (bF k.kids true l);have h2:=jO k.kids true l;have h3:=aS k;rw[bX,bK];omega
 intro ks;have:=h ks [];rw[bM,bG]at this;exact this
theorem aE7(l:List T)(j:Nat):szs (l.drop j)≤szs l:=by
 conv=>rhs;rw[←dN j l]
 rw[BE];omega
theorem JZ{l:List Bd}(k:Int)(h:l.length=0):kT l k=(l,-1):=by unfold kT;rw[if_pos h]
theorem JY{l:List Bd}(k:Int)(h:¬l.length=0):kT l k=(l,k):=by unfold kT;rw[if_neg h]
attribute [local irreducible] JV kT aH
attribute [local irreducible] jY dT eM bF dR dM anI jK iB G GC GQ GA eV Calls IntKind.wrap Int.decLt Int.decLe
theorem IM(E:List Fl)(fv:Value)(es:List (Fl×Value))(a:Nat)(μ:Mem)(hF:FLs μ E fv es)(ad:GV E)(ha:a<E.length):
 PRN 73 [fv,.int .i64 (a:Int)] (nmE E a) μ:=by
 intro w hμ hO;have g:=dW hO.diff;have al:=fun h4=>aA7 E fv es a μ hF ad ha h4;obtain⟨A0,cA,rfl⟩:=hF.form;obtain⟨adA,e,u,rfl,ao,a8,an,v,ae⟩:=hF.get ha;have bm:=ad.last a e ao;have z:=ad.vw e (aB ao);have bi:=ad.sz e (aB ao);have bg:=ad.up a e ao;have b4:=ad.len;rw[a8]at al;generalize f:nmE E a=r;unfold nmE at f;rw[a8]at f;dsimp only at f;have ap:0≤e.up→∃ep up',aH E e.up.toNat=ep∧e.up=((e.up.toNat:Nat):Int)∧gF μ (adA.add (e.up.toNat*11)) [.int .i64 ep.t.op,.int .i64 ep.t.at',.int .i64 ep.t.n,.int .i64 ep.t.m,.string ep.t.s,up',.int .i64 ep.up,.int .i64 (ep.kid:Int),.int .i64 (ep.fn:Int),.int .i64 (ep.num:Int),.int .i64 (ep.last:Int)]:=fun h0=>by obtain⟨ad9,ep,up',e9,-,ax,ah,-,-⟩:=hF.get (i:=e.up.toNat) (by omega);cases e9;exact⟨ep,up',ax,by omega,ah⟩
 obtain⟨t,up,kid,fn,num,last⟩:=e;dsimp only at bm z bi f ae an v bg ap al;have ou:=ae.one;have bz:=aS t;have hlen:=iG t.kids;have aj:=fun fs=>DB t.kids fs u (.slice none 0 0) [] μ ae (fun k hk=>z.kid hk) (by omega) (by simp;omega);refine cI Tryz.func73 rfl Tryz.ntmps73 (by simp) hμ hO ?_;by_cases o1:t.op=1
 ·rw[if_pos o1]at f;try repeat' (first|refine KO ?_|(refine CF 110 ?_;(refine sV 40 4 ?_);(with_reducible apply rI (bl:=([]:List Bd)) 0);(iterate 3 exact rfl);exact EN;exact rfl;(exact aj false);(intro v4 μ4 ab);(dsimp only[fT]))|(refine KV (b:=by first|exact U1 a|exact U4 v) (c:=?_))|refine KZ ?_|refine NB fun b=>?_)
  all_goals exact pE g rfl (by repeat first|exact kW|refine jD (by exact cX rfl) ?_) rfl f
 rw[if_neg o1]at f;by_cases o4:t.op=4
 ·rw[if_pos o4]at f;try repeat' (first|refine KO ?_|(refine CF 111 ?_;(with_reducible apply aKa);(iterate 3 exact rfl);exact EN;(exact al o4);(intro v4 μ4 ab))|(refine KV (b:=by first|exact U1 a|exact U4 v) (c:=?_))|refine KZ ?_|refine NB fun b=>?_)
  all_goals exact pE g rfl (by repeat first|exact kW|refine jD (by exact cX rfl) ?_) rfl f
 rw[if_neg o4]at f;have o:∀k:Int,kT ([]:List Bd) k=([],-1):=fun k=>aH8 k;by_cases o6:t.op=6
 ·rw [if_pos o6]at f;by_cases au:0≤up
  ·obtain⟨ep,up9,ax,hup,ah⟩:=ap au;rw[ax]at f;generalize up.toNat=k at hup ah;by_cases az:ep.t.op=4
   ·rw[if_neg (fun h=>h.2 az),o]at f;refine oN 40 4 ?_;subst hup;try repeat' (first|refine KO ?_|(refine KV (b:=by first|exact U1 a|exact U1 k|exact U4 v|exact U4 an|exact U4 ah) (c:=?_))|refine KZ ?_|refine NB fun b=>?_)
    all_goals refine gO (L' :=[_]) (eB (.refl _) (.nil _)) ?_
    all_goals exact pE (bl:=[]) g rfl (by repeat first|exact kW|refine jD (by exact cX rfl) ?_) rfl f
   ·rw[if_pos ⟨au,az⟩]at f;generalize bq:bF t.kids true []=bl at f aj;have hd:=aj true;rw[bq]at hd;subst hup;try repeat' (first|refine KO ?_|(refine CF 110 ?_;(refine sV 40 4 ?_);(with_reducible apply rI (bl:=([]:List Bd)) 0);(iterate 3 exact rfl);exact EN;exact rfl;(exact hd);(intro v4 μ4 ab);(dsimp only[fT]))|(refine KV (b:=by first|exact U1 a|exact U1 k|exact U4 v|exact U4 an|exact U4 ah) (c:=?_))|refine KZ ?_|refine NB fun b=>?_|(refine KB ?_ ?_<;>intro hp))
    all_goals first
     |exact pE g rfl (by repeat first|exact kW|refine jD (by exact cX rfl) ?_) rfl ((JZ 2 (by(dsimp only at*;omega))).symm.trans f)
     |exact pE g rfl (by repeat first|exact kW|refine jD (by exact cX rfl) ?_) rfl ((JY 2 (by(dsimp only at*;omega))).symm.trans f)
  ·rw[if_neg (fun h=>au h.1),o]at f;refine oN 40 4 ?_;try repeat' (first|refine KO ?_|(refine KV (b:=by first|exact U1 a|exact U4 v|exact U4 an) (c:=?_))|refine KZ ?_|refine NB fun b=>?_)
   all_goals refine gO (L' :=[_]) (eB (.refl _) (.nil _)) ?_
   all_goals exact pE (bl:=[]) g rfl (by repeat first|exact kW|refine jD (by exact cX rfl) ?_) rfl f
 rw[if_neg o6]at f;by_cases o21:t.op=21
 ·rw[if_pos o21]at f;obtain⟨Ak,ck,rfl,ak,p⟩:=ae.form;try repeat' (first|refine KO ?_|(refine KV (b:=by first|exact U1 a|exact U4 v) (c:=?_))|refine KZ ?_|refine NB fun b=>?_)
  obtain⟨bn,ba⟩:∃y,y=b:=⟨_,rfl⟩;rw[←ba];clear ba;have af:=z.here.ks.kc.one (by omega);refine cD (ι:=Nat×Value×Mem) (fun q=>q.1+1≤t.kids.length∧MLe μ q.2.2) (fun q=>t.kids.length-q.1) (fun q=>q.2.2) (fun q=>[(9,.int .i64 ((q.1+1:Nat):Int)),(6,.pointer (some ⟨bn,0,none⟩)),(8,.int .i64 2),(7,q.2.1)]) (fun q=>[mF q.2.1 (((t.kids.drop 1).take q.1).foldl (fun l k=>bF k.kids true l) []),.inl ⟨bn,24,6,idx 0 (cO t (.slice Ak t.kids.length ck))⟩]) (0,.slice none 0 0,μ) ⟨af,MLe.refl _⟩ (fun a w hs=>(hs.xY 40 4).sel PU PS) ?_;rintro⟨j,v7,μ7⟩ ⟨hj,aa⟩;dsimp only at hj aa⊢;have bb:(((t.kids.drop 1).take j).foldl (fun l k=>bF k.kids true l) []).length≤szs ((t.kids.drop 1).take j):=ZE _;have b1:=aE7 t.kids 1;have bs:=HA (t.kids.drop 1) j;by_cases bp:j+1<t.kids.length
  ·obtain⟨y,ar⟩:∃d,t.kids[j+1]? =some d:=⟨_,aA bp⟩;obtain⟨ady,xy,rfl,a6,b2,bo⟩:=p (j+1) y ar;have bk:=a6.mono aa;have aq:=aB ar;have bx:y.size≤szs t.kids:=T.eL (List.mem_map.2 ⟨y,aq,rfl⟩);have b0:=aS y;have bd:(t.kids.drop 1)[j]? =some y:=by rw[fP,jR];exact ar
   have ag:=lM (fun l (k:T)=>bF k.kids true l) (l:=[]) bd;generalize ((t.kids.drop 1).take j).foldl (fun l k=>bF k.kids true l) []=acc9 at bb ag⊢;have hd:=DB y.kids true xy v7 acc9 μ7 (bo.mono aa) (fun k hk=>(z.kid aq).kid hk) (by omega) (by omega);rw[←ag]at hd;try repeat' (first|refine KO ?_|(refine CF 110 ?_;(with_reducible apply rI 0);(iterate 3 exact rfl);exact EN;exact rfl;(exact hd);(intro v8 μ8 a7);(dsimp only[fT]))|(refine KV (b:=by first|exact U1 (j+1)|exact U4 bk) (c:=?_))|refine KZ ?_)
   all_goals exact J2 (j+1,v8,μ8) ⟨by dsimp only;omega,aa.trans a7⟩ (by dsimp only;omega)
  ·rw[aK (by rw[dA];omega)];generalize (t.kids.drop 1).foldl (fun l k=>bF k.kids true l) []=bl at f⊢;refine gT 0 rfl ?_;rintro A7 c7 rfl bt;try repeat' (first|refine KZ ?_|(refine KB ?_ ?_<;>intro hp))
   all_goals first
    |exact pE g rfl (by repeat first|exact kW|refine jD (by exact cX rfl) ?_) rfl ((JZ 2 (by omega)).symm.trans f)
    |exact pE g rfl (by repeat first|exact kW|refine jD (by exact cX rfl) ?_) rfl ((JY 2 (by omega)).symm.trans f)
 rw[if_neg o21]at f;by_cases ol:t.op=10∨t.op=11∨t.op=12
 ·rw[if_pos ol]at f;obtain⟨Ak,ck,rfl,ak,p⟩:=ae.form;have af:=z.here.ks.kc.one (by omega);obtain⟨d0,x⟩:∃d0,t.kids[0]? =some d0:=⟨_,aA (by omega)⟩;obtain⟨ad0,x0,rfl,av,a1,ai⟩:=p 0 d0 x;have aw:=jE x;rw[aw]at f;have bc:=T.fY x;have hd:=fun(μc:Mem) (hle:MLe μ μc)=>HH d0 x0 (.slice none 0 0) [] false μc (ai.mono hle) (z.kid (aB x)) (by omega) (by simp;omega);generalize bF [d0] false []=bl at f hd;try repeat' (first|refine KO ?_|(refine CF 112 ?_;(refine sV 40 4 ?_);(with_reducible apply rI (bl:=([]:List Bd)) 0);(iterate 3 exact rfl);exact EN;exact rfl;(exact hd _ (MLe.refl _));(intro v4 μ4 ab);(dsimp only[fT]))|(refine KV (b:=by first|exact U1 a|exact U1 0|exact U4 v|exact U4 av) (c:=?_))|refine KZ ?_|refine NB fun b=>?_|(refine KB ?_ ?_<;>intro hp))
  all_goals first
   |(exfalso;first|fail)
   |exact pE g rfl (by repeat first|exact kW|refine jD (by exact cX rfl) ?_) rfl ((JZ 3 (by(dsimp only at*;omega))).symm.trans f)
   |exact pE g rfl (by repeat first|exact kW|refine jD (by exact cX rfl) ?_) rfl ((JY 3 (by(dsimp only at*;omega))).symm.trans f)
 rw[if_neg ol]at f;by_cases o20:t.op=20
 ·rw[if_pos o20]at f;obtain⟨Ak,ck,rfl,ak,p⟩:=ae.form;have af:=z.here.ks.kc.two (by omega);obtain⟨d0,x⟩:∃d0,t.kids[0]? =some d0:=⟨_,aA (by omega)⟩;obtain⟨ad0,x0,rfl,av,a1,ai⟩:=p 0 d0 x;have aw:=jE x;rw[aw]at f;have bc:=T.fY x;have b3:=kQ d0;have bf:dJ Vp d0:=(z.kid (aB x)).imp' fun t h=>h.vp;have bj:=fun w μc hw (hle:MLe μ μc)=>tD d0 w μc x0 hw (ai.mono hle) (by omega) bf;have hd:=fun(μc:Mem) (sv:Value) (hS:SsV μc sv (bB d0))=>wV [] (.slice none 0 0) sv (bB d0) 5 μc hS (by simp;omega);generalize dT 5 (bB d0) []=bl at f hd;try repeat' (first|refine KO ?_|((with_reducible apply F3 74);exact rfl;exact EN;(exact fun w μc hw bh=>bj w μc hw bh.le);intro v2;(with_reducible apply fI 0);exact rfl;(rintro A2 c2 rfl bu);(refine pG rfl ?_);(intro μ2 bw ay);(have br:=SsV.nH (xs:=bB d0) ay rfl rfl))|(refine CF 113 ?_;(refine sV 40 4 ?_);(with_reducible apply rI (bl:=([]:List Bd)) 0);(iterate 3 exact rfl);exact EN;exact rfl;(exact hd _ _ br);(intro v4 μ4 ab);(dsimp only[fT]))|(refine KV (b:=by first|exact U1 a|exact U1 0|exact U4 v|exact U4 av) (c:=?_))|refine KZ ?_|refine NB fun b=>?_|(refine KB ?_ ?_<;>intro hp))
  all_goals first
   |(exfalso;first|fail)
   |exact pE g rfl (by repeat first|exact kW|refine jD (by exact cX rfl) ?_) rfl ((JZ 4 (by(dsimp only at*;omega))).symm.trans f)
   |exact pE g rfl (by repeat first|exact kW|refine jD (by exact cX rfl) ?_) rfl ((JY 4 (by(dsimp only at*;omega))).symm.trans f)
 rw[if_neg o20,o]at f;refine oN 40 4 ?_;try repeat' (first|refine KO ?_|(refine KV (b:=by first|exact U1 a|exact U4 v) (c:=?_))|refine KZ ?_|refine NB fun b=>?_)
 all_goals refine gO (L' :=[_]) (eB (.refl _) (.nil _)) ?_
 all_goals exact pE (bl:=[]) g rfl (by repeat first|exact kW|refine jD (by exact cX rfl) ?_) rfl f
end
section
open Go.RowKit Go.Vcg Go.MapKept
def nN(l:List Int)(n:Nat):List Value:=l.map (fun x=>Value.int .i64 x)++List.replicate (n-l.length) (.int .i64 0)
theorem pW(n:Nat):nN [] n=List.replicate n (.int .i64 0):=rfl
theorem MN{l:List Int}{n:Nat}(h:l.length≤n):(nN l n).length=n:=by
 unfold nN;rw[aI,aO,List.length_replicate];omega
theorem MO{l:List Int}{n k:Nat}{x:Int}(h:l[k]? =some x):(nN l n)[k*1]? =some (.int .i64 x):=by
 unfold nN;have hk:=(List.getElem?_eq_some_iff.1 h).1;rw[mU,aV (by rw[aO];exact hk),aX,h];rfl
theorem MM{l:List Int}{n:Nat}{a x:Int}(h:l.length<n)(b:Bool):(nN (if b=true then l++[a]else l) n).take (l.length*1)++[.int .i64 x]++(nN (if b=true then l++[a]else l) n).drop (l.length*1+1)=nN (l++[x]) n:=by
 obtain⟨m,hm⟩:∃m,n-l.length=m+1:=⟨n-l.length-1,by omega⟩;have c:n- (l++[x]).length=m:=by rw[aI,cN];omega
 have key:∀z:Value,(l.map (fun x=>Value.int .i64 x)++z::List.replicate m (.int .i64 0)).take (l.length*1)++[.int .i64 x]++(l.map (fun x=>Value.int .i64 x)++z::List.replicate m (.int .i64 0)).drop (l.length*1+1)=nN (l++[x]) n:=fun z=>by rw[mU,jH (by rw[aO];exact aC _),aK (by rw[aO];exact aC _),List.drop_append,aO,cB (by rw[aO];omega),show l.length+1-l.length=1 by omega,List.drop_succ_cons,pB,aY];unfold nN;rw[c,bJ];rfl
 cases b with
 | false=>
   rw[if_neg (by simp)];have e:nN l n=l.map (fun x=>Value.int .i64 x)++ .int .i64 0::List.replicate m (.int .i64 0):=by unfold nN;rw[hm];rfl
   rw[e];exact key _
 | true=>
   rw[if_pos rfl];have e:nN (l++[a]) n=l.map (fun x=>Value.int .i64 x)++ .int .i64 a::List.replicate m (.int .i64 0):=by unfold nN;rw[aI,cN,show n- (l.length+1)=m by omega,bJ,bA];rfl
   rw[e];exact key _
structure TW where
 (sv:Value) (ib ob:Nat) (cs:List (Sc×Value))
def TB(n:Nat)(ins ops:List Int)(q:TW):List Bk:=.inr ⟨q.sv,43,5,q.cs.length,q.cs.flatMap fF⟩::.inr ⟨.slice (some ⟨q.ib,0,none⟩) n n,3,1,n,nN ins n⟩::.inr ⟨.slice (some ⟨q.ob,0,none⟩) n n,3,1,n,nN ops n⟩::iB (jK q.cs)
theorem FC(E:List Fl):∀(m i:Nat) (s:RS),(foldI (bI E) i m s).ins.length=s.ins.length+m∧(foldI (bI E) i m s).ops.length=s.ops.length+m∧(foldI (bI E) i m s).L.length≤s.L.length+2*m
 |0,_,s=>⟨rfl,rfl,by rw[foldI];omega⟩
 | m +1,i,s=>by
   obtain⟨h1,h2,h3⟩:=FC E m (i+1) (bI E s i);have hs:(bI E s i).ins.length=s.ins.length+1∧(bI E s i).ops.length=s.ops.length+1∧(bI E s i).L.length≤s.L.length+2:=by
    unfold bI;dsimp only;split
    ·exact⟨by simp,by simp,by dsimp only;omega⟩
    ·refine⟨by simp,by simp,?_⟩;dsimp only;split
     ·simp
     ·simp
   rw[foldI];exact⟨by omega,by omega,by omega⟩
theorem aKz(fs:List Fm)(f g:Fm):iB (fs++[f,g])=(iB fs++[GG f])++[GG g]:=by unfold iB;rw[bJ,bA];rfl
theorem KD(a b:List (Sc×Value)):scs (a++b)=scs a++scs b:=bJ ..
attribute [local irreducible] nN bI foldI aH nmE inG jG
attribute [local irreducible] jY dT eM bF dR dM anI jK iB G GC GQ GA eV Calls IntKind.wrap Int.decLt Int.decLe
theorem TK(E:List Fl)(fv:Value)(es:List (Fl×Value))(μ:Mem)(hF:FLs μ E fv es)(al:GV E)(w:World)(hμ:MOk μ w)(hO:Go.Vcg.Own μ [] w):
 Calls Tryz.prog 51 #[fv] w fun e w' =>∃(v:Value) (μ' :Mem) (q:TW),e=.returned v∧mW (lH []) w w' μ (TB E.length (foldI (bI E) 0 E.length kO).ins (foldI (bI E) 0 E.length kO).ops q) μ' ∧(v=.agg #[q.sv,.slice (some ⟨q.ib,0,none⟩) E.length E.length,.slice (some ⟨q.ob,0,none⟩) E.length E.length]∧scs q.cs=(foldI (bI E) 0 E.length kO).L):=by
 have bq:=dW hO.diff;obtain⟨A0,cA,rfl⟩:=hF.form;have b6:=al.len;refine cI Tryz.func51 rfl Tryz.ntmps51 (by simp) hμ hO ?_;try repeat' (first|((with_reducible show GC _ _ (Code.seq (Code.region 1 _ _) _) _ _ _ _);(apply dX))|refine KZ ?_|refine NB fun b=>?_)
 refine gcs (iT (ι:=Nat×Nat×Nat×Nat) (fun _=>True) (fun _=>μ) (fun q=>[(0,.slice A0 E.length cA),(2,.pointer (some ⟨q.1,0,none⟩)),(3,.pointer (some ⟨q.2.1,0,none⟩))]) (fun q=>[.inl ⟨q.2.1,73,3,[(0,.slice none 0 0),(1,.slice (some ⟨q.2.2.1,0,none⟩) E.length E.length),(2,.slice (some ⟨q.2.2.2,0,none⟩) E.length E.length)]⟩,.inl ⟨q.1,73,3,idx 0 [.slice none 0 0,.slice none 0 0,.slice none 0 0]⟩,.inr ⟨.slice (some ⟨q.2.2.1,0,none⟩) E.length E.length,3,1,E.length,nN [] E.length⟩,.inr ⟨.slice (some ⟨q.2.2.2,0,none⟩) E.length E.length,3,1,E.length,nN [] E.length⟩]) ?_ ?_)
 ·refine aZ 9 _ (by kernel_rfl) rfl (cP aT) ?_;all_goals(refine DD 0 ?_;refine DD 1 ?_;refine DD 3 ?_;refine DD 4 ?_)
  refine aOb 2 5 7 (by kernel_rfl) ?dr24_2 ?dr24_5 ?dr24_7
  case' dr24_2=>
   (refine D5 ?_;refine sX (z:=.int .i64 0) (bytes:=8) E.length (nN [] E.length) (by exact rfl) (by exact rfl) (by exact rfl) (by exact rfl) rfl rfl (by exact rfl) (by exact rfl) (by exact rfl) (by omega) (by omega) (pW _) (fun b=>?_);refine D9 ?_)
   refine iZ 5 7 (by kernel_rfl) ?dr25_5 ?dr25_7
   case' dr25_5=>
    (refine D5 ?_;refine sX (z:=.int .i64 0) (bytes:=8) E.length (nN [] E.length) (by exact rfl) (by exact rfl) (by exact rfl) (by exact rfl) rfl rfl (by exact rfl) (by exact rfl) (by exact rfl) (by omega) (by omega) (pW _) (fun b=>?_);refine D9 ?_)
    all_goals(refine DD 6 ?_;refine D3 7 ?_;refine D5 ?_;refine NB fun b=>?_;refine D9 ?_;refine D3 8 ?_;refine D5 ?_;refine Y0 ?_;refine D9 ?_;refine D8 ?_)
   case' dr25_7=>
    (refine D5 ?_;refine NB fun b=>?_;refine D9 ?_)
    all_goals(refine D3 5 ?_;refine D5 ?_;refine sX (z:=.int .i64 0) (bytes:=8) E.length (nN [] E.length) (by exact rfl) (by exact rfl) (by exact rfl) (by exact rfl) rfl rfl (by exact rfl) (by exact rfl) (by exact rfl) (by omega) (by omega) (pW _) (fun b=>?_);refine D9 ?_)
    all_goals(refine DD 6 ?_;refine D3 8 ?_;refine D5 ?_;refine Y0 ?_;refine D9 ?_;refine D8 ?_)
  case' dr24_5=>
   (refine D5 ?_;refine sX (z:=.int .i64 0) (bytes:=8) E.length (nN [] E.length) (by exact rfl) (by exact rfl) (by exact rfl) (by exact rfl) rfl rfl (by exact rfl) (by exact rfl) (by exact rfl) (by omega) (by omega) (pW _) (fun b=>?_);refine D9 ?_)
   refine iZ 2 7 (by kernel_rfl) ?dr26_2 ?dr26_7
   case' dr26_2=>
    (refine D5 ?_;refine sX (z:=.int .i64 0) (bytes:=8) E.length (nN [] E.length) (by exact rfl) (by exact rfl) (by exact rfl) (by exact rfl) rfl rfl (by exact rfl) (by exact rfl) (by exact rfl) (by omega) (by omega) (pW _) (fun b=>?_);refine D9 ?_)
    all_goals(refine DD 6 ?_;refine D3 7 ?_;refine D5 ?_;refine NB fun b=>?_;refine D9 ?_;refine D3 8 ?_;refine D5 ?_;refine Y0 ?_;refine D9 ?_;refine D8 ?_)
   case' dr26_7=>
    (refine D5 ?_;refine NB fun b=>?_;refine D9 ?_)
    all_goals(refine D3 2 ?_;refine D5 ?_;refine sX (z:=.int .i64 0) (bytes:=8) E.length (nN [] E.length) (by exact rfl) (by exact rfl) (by exact rfl) (by exact rfl) rfl rfl (by exact rfl) (by exact rfl) (by exact rfl) (by omega) (by omega) (pW _) (fun b=>?_);refine D9 ?_)
    all_goals(refine DD 6 ?_;refine D3 8 ?_;refine D5 ?_;refine Y0 ?_;refine D9 ?_;refine D8 ?_)
  case' dr24_7=>
   (refine D5 ?_;refine NB fun b=>?_;refine D9 ?_)
   refine iZ 2 5 (by kernel_rfl) ?dr27_2 ?dr27_5
   case' dr27_2=>
    (refine D5 ?_;refine sX (z:=.int .i64 0) (bytes:=8) E.length (nN [] E.length) (by exact rfl) (by exact rfl) (by exact rfl) (by exact rfl) rfl rfl (by exact rfl) (by exact rfl) (by exact rfl) (by omega) (by omega) (pW _) (fun b=>?_);refine D9 ?_)
    all_goals(refine D3 5 ?_;refine D5 ?_;refine sX (z:=.int .i64 0) (bytes:=8) E.length (nN [] E.length) (by exact rfl) (by exact rfl) (by exact rfl) (by exact rfl) rfl rfl (by exact rfl) (by exact rfl) (by exact rfl) (by omega) (by omega) (pW _) (fun b=>?_);refine D9 ?_)
    all_goals(refine DD 6 ?_;refine D3 8 ?_;refine D5 ?_;refine Y0 ?_;refine D9 ?_;refine D8 ?_)
   case' dr27_5=>
    (refine D5 ?_;refine sX (z:=.int .i64 0) (bytes:=8) E.length (nN [] E.length) (by exact rfl) (by exact rfl) (by exact rfl) (by exact rfl) rfl rfl (by exact rfl) (by exact rfl) (by exact rfl) (by omega) (by omega) (pW _) (fun b=>?_);refine D9 ?_)
    all_goals(refine D3 2 ?_;refine D5 ?_;refine sX (z:=.int .i64 0) (bytes:=8) E.length (nN [] E.length) (by exact rfl) (by exact rfl) (by exact rfl) (by exact rfl) rfl rfl (by exact rfl) (by exact rfl) (by exact rfl) (by omega) (by omega) (pW _) (fun b=>?_);refine D9 ?_)
    all_goals(refine DD 6 ?_;refine D3 8 ?_;refine D5 ?_;refine Y0 ?_;refine D9 ?_;refine D8 ?_)
  all_goals exact J1 (_,_,_,_) trivial
 rintro⟨br,bt,ib,ob⟩-;dsimp only;try repeat' (refine KZ ?_)
 have a6:foldI (bI E) 0 0 kO=kO:=by rw[foldI]
 have b0:iB (jK [])=[]:=by unfold jK;exact aK0
 have a8:=fun i=>FC E i 0 kO;have ah:=fun i=>oY (bI E) 0 i kO;refine cD (ι:=Nat×Value×List (Sc×Value)×Mem) (fun q=>q.1≤E.length∧MLe μ q.2.2.2∧scs q.2.2.1=(foldI (bI E) 0 q.1 kO).L) (fun q=>E.length-q.1) (fun q=>q.2.2.2) (fun q=>[(4,.int .i64 (q.1:Int)),(0,.slice A0 E.length cA),(2,.pointer (some ⟨br,0,none⟩)),(3,.pointer (some ⟨bt,0,none⟩))]) (fun q=>.inl ⟨bt,73,3,[(0,q.2.1),(1,.slice (some ⟨ib,0,none⟩) E.length E.length),(2,.slice (some ⟨ob,0,none⟩) E.length E.length)]⟩::.inl ⟨br,73,3,idx 0 [.slice none 0 0,.slice none 0 0,.slice none 0 0]⟩::.inr ⟨q.2.1,43,5,q.2.2.1.length,q.2.2.1.flatMap fF⟩::.inr ⟨.slice (some ⟨ib,0,none⟩) E.length E.length,3,1,E.length,nN (foldI (bI E) 0 q.1 kO).ins E.length⟩::.inr ⟨.slice (some ⟨ob,0,none⟩) E.length E.length,3,1,E.length,nN (foldI (bI E) 0 q.1 kO).ops E.length⟩::iB (jK q.2.2.1)) (0,.slice none 0 0,[],μ) ⟨aN _,MLe.refl _,by dsimp only;rw[a6];rfl⟩ (fun a w hs=>by
  dsimp only;rw[a6,b0];exact(hs.xY 43 5).sel PU PS) ?_
 rintro⟨i,sv,cs,μ1⟩ ⟨hi,y,ad⟩;dsimp only at hi y ad⊢;obtain⟨bc,bb,ba⟩:=a8 i;have j:=ah i;rw[bG]at j;obtain⟨st,aq⟩:∃x,foldI (bI E) 0 i kO=x:=⟨_,rfl⟩;rw[aq]at ad bc bb ba j⊢;have b8:cs.length≤2*i:=by have:=congrArg List.length ad;rw[kV]at this;have h0:kO.L.length=0:=rfl;omega
 have bo:st.ins.length=i:=by have h0:kO.ins.length=0:=rfl;omega
 have hops:st.ops.length=i:=by have h0:kO.ops.length=0:=rfl;omega
 clear bc bb ba a8 ah;refine gT 2 rfl ?_;rintro As9 cs9 rfl b3;by_cases hlt:i<E.length
 ·obtain⟨adA,e,u,rfl,az,bz,bj,bk,bn⟩:=hF.get hlt;have l:=bj.mono y;have ag:=bk.mono y;have hup:=al.up i e az;have a7:=al.vw e (aB az);have bs:=al.sz e (aB az);have b4:=IM E (.slice (some adA) E.length cA) es i;have ar:0≤e.up→∃k ep up' o v,e.up=((k:Nat):Int)∧aH E k=ep∧st.ops[k]? =some o∧st.ins[k]? =some v∧gF μ1 (adA.add (k*11)) [.int .i64 ep.t.op,.int .i64 ep.t.at',.int .i64 ep.t.n,.int .i64 ep.t.m,.string ep.t.s,up',.int .i64 ep.up,.int .i64 (ep.kid:Int),.int .i64 (ep.fn:Int),.int .i64 (ep.num:Int),.int .i64 (ep.last:Int)]:=fun h0=>by obtain⟨ad9,ep,up',e9,-,ay,an,-,-⟩:=hF.get (i:=e.up.toNat) (by omega);cases e9;exact⟨e.up.toNat,ep,up',_,_,by omega,ay,aA (by omega),aA (by omega),an.mono y⟩
  obtain⟨t,up,kid,fn,num,last⟩:=e;dsimp only at l ag hup a7 bs ar;have aa:inG E st.ins st.ops up kid=if 0≤up then(if(st.ops[up.toNat]?).getD 0<0∨((aH E up.toNat).t.op=21∧kid=0)then(st.ins[up.toNat]?).getD 0 else(st.ops[up.toNat]?).getD 0)else-1:=by unfold inG;rfl
  obtain⟨in0,av⟩:∃x,inG E st.ins st.ops up kid=x:=⟨_,rfl⟩;rw[av]at aa;try repeat' (first|((with_reducible show GC _ _ (Code.seq (Code.seq (Code.region 6 _ _) _) _) _ _ _ _);(apply dX))|refine KZ ?_)
  refine gcs (iT (ι:=Unit) (fun _=>True) (fun _=>μ1) (fun _=>[(5,.int .i64 in0),(4,.int .i64 (i:Int)),(0,.slice (some adA) E.length cA),(2,.pointer (some ⟨br,0,none⟩)),(3,.pointer (some ⟨bt,0,none⟩))]) (fun _=>(.inl ⟨bt,73,3,[(0,.slice As9 cs.length cs9),(1,.slice (some ⟨ib,0,none⟩) E.length E.length),(2,.slice (some ⟨ob,0,none⟩) E.length E.length)]⟩::.inl ⟨br,73,3,idx 0 [.slice none 0 0,.slice none 0 0,.slice none 0 0]⟩::.inr ⟨.slice As9 cs.length cs9,43,5,cs.length,cs.flatMap fF⟩::.inr ⟨.slice (some ⟨ib,0,none⟩) E.length E.length,3,1,E.length,nN st.ins E.length⟩::.inr ⟨.slice (some ⟨ob,0,none⟩) E.length E.length,3,1,E.length,nN st.ops E.length⟩::iB (jK cs))) ?_ ?_)
  ·by_cases ax:0≤up
   ·obtain⟨k,ep,up',o,v,rfl,ay,ho,hv,an⟩:=ar ax;rw[if_pos ax,aG,ho,hv,ay,lV,lV]at aa;have bx:=MO (n:=E.length) ho;have bp:=MO (n:=E.length) hv;try repeat' (first|refine KO ?_|(refine KV (b:=by first|exact U1 i|exact U4 l) (c:=?_))|refine KZ ?_)
    refine aZ 10 _ (by kernel_rfl) rfl (aD (cP (cP (aD (aD aT))))) ?_;all_goals(refine D1 0 ?_;refine DD 1 ?_;refine DD 2 ?_;refine DD 3 ?_;refine D2 4 rfl (by exact U1 i) ?_;refine DD 5 ?_;refine D2 6 rfl (by exact U4 l) ?_;refine D2 7 rfl (by exact U1 k) ?_;refine D2 8 rfl (by((with_reducible apply qK 2);(iterate 3 exact rfl);exact bx)) ?_;refine DD 9 ?_;refine D8 ?_)
    by_cases bi:o<0
    ·rw[if_pos (.inl bi)]at aa;subst aa;all_goals try repeat' (refine KZ ?_)
     refine aZ 10 _ (by kernel_rfl) rfl (aD (cP (cP (aD aT)))) ?_;all_goals(refine D1 0 ?_;refine DD 1 ?_;refine DD 2 ?_;refine DD 3 ?_;refine D2 4 rfl (by exact U1 i) ?_;refine DD 5 ?_;refine D2 6 rfl (by exact U4 l) ?_;refine D2 7 rfl (by exact U1 k) ?_;refine D2 8 rfl (by((with_reducible apply qK 1);(iterate 3 exact rfl);exact bp)) ?_;refine DD 9 ?_;refine D8 ?_)
     all_goals exact fJ () trivial rfl PU (by repeat exact fH _)
    ·by_cases ao:ep.t.op=21∧kid=0
     ·rw[if_pos (.inr ao)]at aa;subst aa;obtain⟨ao,rfl⟩:=ao;all_goals try repeat' (first|refine KO ?_|(refine KV (b:=by first|exact U1 i|exact U1 k|exact U4 l|exact U4 an) (c:=?_))|refine KZ ?_)
      refine aZ 10 _ (by kernel_rfl) rfl (aD (cP (cP (aD aT)))) ?_;all_goals(refine D1 0 ?_;refine DD 1 ?_;refine DD 2 ?_;refine DD 3 ?_;refine D2 4 rfl (by exact U1 i) ?_;refine DD 5 ?_;refine D2 6 rfl (by exact U4 l) ?_;refine D2 7 rfl (by exact U1 k) ?_;refine D2 8 rfl (by((with_reducible apply qK 1);(iterate 3 exact rfl);exact bp)) ?_;refine DD 9 ?_;refine D8 ?_)
      all_goals exact fJ () trivial rfl PU (by repeat exact fH _)
     ·rw[if_neg (by rintro(h|h);exact bi h;exact ao h)]at aa;subst aa;by_cases h2:ep.t.op=21
      ·have b7:¬(kid:Int)=0:=fun h=>ao ⟨h2,by omega⟩;all_goals try repeat' (first|refine KO ?_|(refine KV (b:=by first|exact U1 i|exact U1 k|exact U4 l|exact U4 an) (c:=?_))|refine KZ ?_)
       all_goals exact fJ () trivial rfl PU (by repeat exact fH _)
      ·all_goals try repeat' (first|refine KO ?_|(refine KV (b:=by first|exact U1 i|exact U1 k|exact U4 l|exact U4 an) (c:=?_))|refine KZ ?_)
       all_goals exact fJ () trivial rfl PU (by repeat exact fH _)
   ·rw[if_neg ax]at aa;subst aa;try repeat' (first|refine KO ?_|(refine KV (b:=by first|exact U1 i|exact U4 l) (c:=?_))|refine KZ ?_)
    all_goals exact fJ () trivial rfl PU (by repeat exact fH _)
  rintro⟨⟩-;have aw:=a7.here.fl;have ap:t.op=4→(jG t 1=true↔t.n.tmod 2=1):=fun h4=>by have:=(VG (aw h4)).1;unfold jG;rw[decide_eq_true h4,bR,decide_eq_true_iff];exact this
  obtain⟨us9,bw⟩:∃us9,bI E st i=if(nmE E i).2<0 then(⟨st.L,st.ins++[in0],st.ops++[-1],us9⟩:RS)else⟨(if jC t=true then st.L++[⟨in0,(if t.op=4 then(num:Int)else(fn:Int)),5,t.at',[⟨t.s,7,false,0⟩]⟩]else st.L)++[⟨if jC t=true then(st.L.length:Int)else in0,(if t.op=4 then(num:Int)else(fn:Int)),(nmE E i).2,t.at',(nmE E i).1⟩],st.ins++[in0],st.ops++[(((if jC t=true then st.L++[⟨in0,(if t.op=4 then(num:Int)else(fn:Int)),5,t.at',[⟨t.s,7,false,0⟩]⟩]else st.L):List Sc).length:Int)],us9⟩:=by refine⟨if mR E i=true then st.us++[(in0,t.s,(fn:Int))]else st.us,?_⟩;unfold bI;rw[bz];dsimp only;rw[av]
  rw[bw]at j;have ou:=bn.one;have bf:(nN st.ins E.length).length=E.length:=MN (by omega);have bd:(nN st.ops E.length).length=E.length:=MN (by omega);have bh:=MM (a:=0) (x:=in0) (show st.ins.length<E.length by omega) false;have bg:=MM (a:=0) (x:= -1) (show st.ops.length<E.length by omega) false;rw[if_neg (by simp),bo]at bh;rw[if_neg (by simp),hops]at bg;have ab:=IM E (.slice (some adA) E.length cA) es i μ1 (hF.mono y) al hlt;generalize nmE E i=r at j ab;obtain⟨rl,rk⟩:=r;dsimp only at j;try repeat' (first|((with_reducible show GC _ _ (Code.seq (Code.region 12 _ _) _) _ _ _ _);(apply dX))|refine KO ?_|((with_reducible apply oT 3);(iterate 7 exact rfl);(rw[bf];omega);dsimp only[fT])|((with_reducible apply oT 4);(iterate 7 exact rfl);(rw[bd];omega);dsimp only[fT])|(refine KV (b:=by exact U1 i) (c:=?_))|refine KZ ?_)
  rw[show(Value.int .i64 in0).cells.toList=[Value.int .i64 in0]from rfl,show(Value.int .i64 (-1)).cells.toList=[Value.int .i64 (-1)]from rfl,bh,bg];refine gcs ?_;by_cases au:rk<0
  ·rw[if_pos au]at j;try repeat' (first|refine KO ?_|(refine CF 73 ?_;(with_reducible apply YY);(iterate 3 exact rfl);exact EN;(exact ab);(intro v4 μ4 p))|(refine KV (b:=by first|exact U1 i|exact U4 ag) (c:=?_))|refine KZ ?_|refine NB fun b=>?_)
   all_goals refine cY (i+1,.slice As9 cs.length cs9,cs,μ4) ⟨by dsimp only;omega,y.trans p,by dsimp only;rw[j];exact ad⟩ (by dsimp only;omega) rfl PU ?_
   all_goals dsimp only
   all_goals rw[j]
   all_goals exact bY _ (bY _ (fH _))
  rw[if_neg au]at j;have af:(nN (st.ops++[-1]) E.length).length=E.length:=MN (by rw[aI,cN];omega);have aj:=fun x=>MM (a:= -1) (x:=x) (show st.ops.length<E.length by omega) true;simp only[if_pos,hops]at aj;have ai:st.L.length=cs.length:=by rw[←ad,kV]
  by_cases o4:t.op=4
  rotate_left
  ·have f:jC t=false:=by unfold jC;rw[decide_eq_false o4];rfl
   rw[f,if_neg (by simp),if_neg (by simp),if_neg o4]at j;try repeat' (first|refine KO ?_|(refine CF 73 ?_;(with_reducible apply YY);(iterate 3 exact rfl);exact EN;(exact ab);(intro v4 μ4 p);(have l:=l.mono p);(dsimp only);(refine fI 0 rfl ?_);(rintro A4 c4 rfl ak))|((with_reducible apply oT 6);(iterate 7 exact rfl);(rw[af];omega);(dsimp only[fT]))|(((with_reducible apply qA);(iterate 3 exact rfl);(repeat first|with_reducible exact fO|with_reducible apply gD);(iterate 6 exact rfl);(((with_reducible apply kB);exact rfl;(repeat with_reducible exact fW);exact rfl));(exact rfl);((exact gI (by(repeat first|with_reducible exact fZ|((with_reducible apply eW);(exact rfl))))));omega;omega;intro v;(refine mP 5 rfl (by omega) fun g cap hv hcap=>?_);(subst hv)))|(refine KV (b:=by first|exact U1 i|exact U4 l|exact U4 ag) (c:=?_))|refine KZ ?_|refine NB fun b=>?_)
   refine gO (L' :=mF (.slice A4 rl.length c4) rl::_) (eB (.refl _) (bY _ (bY _ (fH _)))) ?_;refine nD (dZ _ _) ?_;dsimp only[aU];rw[show(Value.int .i64 (cs.length:Int)).cells.toList=[Value.int .i64 (cs.length:Int)]from rfl,aj];refine gJ (n' :=(cs++[((⟨in0,(fn:Int),rk,t.at',rl⟩:Sc),Value.slice A4 rl.length c4)]).length) (xs' :=(cs++[((⟨in0,(fn:Int),rk,t.at',rl⟩:Sc),Value.slice A4 rl.length c4)]).flatMap fF) 2 rfl (by simp) (by simp) ?_;dsimp only[fT];refine cY (i+1,.slice (some ⟨g,0,none⟩) (cs.length+1) cap,cs++[((⟨in0,(fn:Int),rk,t.at',rl⟩:Sc),Value.slice A4 rl.length c4)],μ4) ⟨by dsimp only;omega,y.trans p,by dsimp only;rw[j,KD,ad];rfl⟩ (by dsimp only;omega) rfl PU ?_;dsimp only;rw[j,GB,GH,ai];exact fA (.cells PU) (fH _)
  simp only[if_pos o4]at j;have ap:=ap o4;have b5:t.n.tmod 2=t.n%2:=Int.tmod_eq_emod_of_nonneg (aw o4).1;by_cases f:jC t=true
  rotate_left
  ·rw [if_neg f,if_neg f]at j;have ae:t.n.tmod 2=0→t.s=⟨#[]⟩:=fun h0=>by
    by_cases hs:t.s=⟨#[]⟩
    ·exact hs
    ·refine absurd ?_ f;unfold jC;have a1:jG t 1=false:=by
      cases hb:jG t 1 with
      |false=>rfl
      |true=>have:=ap.1 hb;omega
     rw[decide_eq_true o4,decide_eq_false hs,a1];rfl
   by_cases bm:t.n.tmod 2=0
   ·have bu:=ae bm;try repeat' (first|refine KO ?_|(refine CF 73 ?_;(with_reducible apply YY);(iterate 3 exact rfl);exact EN;(exact ab);(intro v4 μ4 p);(have l:=l.mono p);(dsimp only);(refine fI 0 rfl ?_);(rintro A4 c4 rfl ak))|((with_reducible apply oT 6);(iterate 7 exact rfl);(rw[af];omega);(dsimp only[fT]))|(((with_reducible apply qA);(iterate 3 exact rfl);(repeat first|with_reducible exact fO|with_reducible apply gD);(iterate 6 exact rfl);(((with_reducible apply kB);exact rfl;(repeat with_reducible exact fW);exact rfl));(exact rfl);((exact gI (by(repeat first|with_reducible exact fZ|((with_reducible apply eW);(exact rfl))))));omega;omega;intro v;(refine mP 5 rfl (by omega) fun g cap hv hcap=>?_);(subst hv)))|(refine KV (b:=by first|exact U1 i|exact U4 l|exact U4 ag) (c:=?_))|refine KZ ?_|refine NB fun b=>?_|(refine KB ?_ ?_<;>intro hp))
    all_goals try(exfalso;contradiction)
    refine gO (L' :=mF (.slice A4 rl.length c4) rl::_) (eB (.refl _) (bY _ (bY _ (fH _)))) ?_;refine nD (dZ _ _) ?_;dsimp only[aU];rw[show(Value.int .i64 (cs.length:Int)).cells.toList=[Value.int .i64 (cs.length:Int)]from rfl,aj];refine gJ (n' :=(cs++[((⟨in0,(num:Int),rk,t.at',rl⟩:Sc),Value.slice A4 rl.length c4)]).length) (xs' :=(cs++[((⟨in0,(num:Int),rk,t.at',rl⟩:Sc),Value.slice A4 rl.length c4)]).flatMap fF) 2 rfl (by simp) (by simp) ?_;dsimp only[fT];refine cY (i+1,.slice (some ⟨g,0,none⟩) (cs.length+1) cap,cs++[((⟨in0,(num:Int),rk,t.at',rl⟩:Sc),Value.slice A4 rl.length c4)],μ4) ⟨by dsimp only;omega,y.trans p,by dsimp only;rw[j,KD,ad];rfl⟩ (by dsimp only;omega) rfl PU ?_;dsimp only;rw[j,GB,GH,ai];exact fA (.cells PU) (fH _)
   ·try repeat' (first|refine KO ?_|(refine CF 73 ?_;(with_reducible apply YY);(iterate 3 exact rfl);exact EN;(exact ab);(intro v4 μ4 p);(have l:=l.mono p);(dsimp only);(refine fI 0 rfl ?_);(rintro A4 c4 rfl ak))|((with_reducible apply oT 6);(iterate 7 exact rfl);(rw[af];omega);(dsimp only[fT]))|(((with_reducible apply qA);(iterate 3 exact rfl);(repeat first|with_reducible exact fO|with_reducible apply gD);(iterate 6 exact rfl);(((with_reducible apply kB);exact rfl;(repeat with_reducible exact fW);exact rfl));(exact rfl);((exact gI (by(repeat first|with_reducible exact fZ|((with_reducible apply eW);(exact rfl))))));omega;omega;intro v;(refine mP 5 rfl (by omega) fun g cap hv hcap=>?_);(subst hv)))|(refine KV (b:=by first|exact U1 i|exact U4 l|exact U4 ag) (c:=?_))|refine KZ ?_|refine NB fun b=>?_)
    refine gO (L' :=mF (.slice A4 rl.length c4) rl::_) (eB (.refl _) (bY _ (bY _ (fH _)))) ?_;refine nD (dZ _ _) ?_;dsimp only[aU];rw[show(Value.int .i64 (cs.length:Int)).cells.toList=[Value.int .i64 (cs.length:Int)]from rfl,aj];refine gJ (n' :=(cs++[((⟨in0,(num:Int),rk,t.at',rl⟩:Sc),Value.slice A4 rl.length c4)]).length) (xs' :=(cs++[((⟨in0,(num:Int),rk,t.at',rl⟩:Sc),Value.slice A4 rl.length c4)]).flatMap fF) 2 rfl (by simp) (by simp) ?_;dsimp only[fT];refine cY (i+1,.slice (some ⟨g,0,none⟩) (cs.length+1) cap,cs++[((⟨in0,(num:Int),rk,t.at',rl⟩:Sc),Value.slice A4 rl.length c4)],μ4) ⟨by dsimp only;omega,y.trans p,by dsimp only;rw[j,KD,ad];rfl⟩ (by dsimp only;omega) rfl PU ?_;dsimp only;rw[j,GB,GH,ai];exact fA (.cells PU) (fH _)
  ·rw[if_pos f,if_pos f]at j;have ae:t.n.tmod 2=0∧t.s≠⟨#[]⟩:=by
    unfold jC at f;rw[aM,aM]at f;refine⟨?_,by simpa using f.2.1⟩;have a1:jG t 1=false:=by simpa using f.2.2
    by_cases h1:t.n.tmod 2=1
    ·have:=ap.2 h1;rw[a1]at this;cases this
    ·omega
   obtain⟨bm,bu⟩:=ae;try repeat' (first|refine KO ?_|(refine CF 73 ?_;(with_reducible apply YY);(iterate 3 exact rfl);exact EN;(exact ab);(intro v4 μ4 p);(have l:=l.mono p);(dsimp only);(refine fI 0 rfl ?_);(rintro A4 c4 rfl ak))|((with_reducible apply oT 8);(iterate 7 exact rfl);(rw[af];omega);(dsimp only[fT]))|(((with_reducible apply qA);(iterate 3 exact rfl);(repeat first|with_reducible exact fO|with_reducible apply gD);(iterate 6 exact rfl);(((with_reducible apply kB);exact rfl;(repeat with_reducible exact fW);exact rfl));(exact rfl);((exact gI (by(repeat first|with_reducible exact fZ|((with_reducible apply eW);(exact rfl))))));omega;omega;intro v;(first|(refine mP 6 rfl (by omega) fun g cap hv hcap=>?_;subst hv)|(refine mP 7 rfl (by omega) fun g2 cap2 hv b1=>?_;subst hv))))|(refine KV (b:=by first|exact U1 i|exact U4 l|exact U4 ag) (c:=?_))|refine KZ ?_|refine NB fun b=>?_)
   rename_i bn9 bb9 bs9;have b2:(st.L++[(⟨in0,(num:Int),5,t.at',[⟨t.s,7,false,0⟩]⟩:Sc)]).length=cs.length+1:=by rw[aI,ai];rfl
   rw[b2,ai]at j;refine gO (L' :=.inl ⟨bb9,40,4,_⟩::mF (.slice A4 rl.length c4) rl::_) (tB (.refl _) (tB (.refl _) (bY _ (bY _ (bY _ (fH _)))))) ?_;refine HT (xs:=[Value.string t.s,.int .i64 7,.bool false,.int .i64 0]) 1 4 rfl (by repeat first|exact cH|refine bL rfl ?_) (by omega) ?_;refine nD (dZ _ _) ?_;dsimp only[aU];refine nD (dZ _ _) ?_;dsimp only[aU];have e1:((cs.length+1:Nat):Int)-1=(cs.length:Int):=by omega
   rw[show(Value.int .i64 ((cs.length+1:Nat):Int)).cells.toList=[Value.int .i64 ((cs.length+1:Nat):Int)]from rfl,aj,e1];refine gJ (n' :=(cs++[((⟨in0,(num:Int),5,t.at',[⟨t.s,7,false,0⟩]⟩:Sc),Value.slice (some ⟨bb9,0,none⟩) 1 1),((⟨(cs.length:Int),(num:Int),rk,t.at',rl⟩:Sc),Value.slice A4 rl.length c4)]).length) (xs' :=(cs++[((⟨in0,(num:Int),5,t.at',[⟨t.s,7,false,0⟩]⟩:Sc),Value.slice (some ⟨bb9,0,none⟩) 1 1),((⟨(cs.length:Int),(num:Int),rk,t.at',rl⟩:Sc),Value.slice A4 rl.length c4)]).flatMap fF) 2 rfl (by simp) (by simp) ?_;dsimp only[fT];refine cY (i+1,.slice (some ⟨g2,0,none⟩) (cs.length+1+1) cap2,cs++[((⟨in0,(num:Int),5,t.at',[⟨t.s,7,false,0⟩]⟩:Sc),Value.slice (some ⟨bb9,0,none⟩) 1 1),((⟨(cs.length:Int),(num:Int),rk,t.at',rl⟩:Sc),Value.slice A4 rl.length c4)],μ4) ⟨by dsimp only;omega,y.trans p,by dsimp only;rw[j,KD,ad,bA];rfl⟩ (by dsimp only;omega) rfl PU ?_;dsimp only;rw[j,show jK (cs++[((⟨in0,(num:Int),5,t.at',[⟨t.s,7,false,0⟩]⟩:Sc),Value.slice (some ⟨bb9,0,none⟩) 1 1),((⟨(cs.length:Int),(num:Int),rk,t.at',rl⟩:Sc),Value.slice A4 rl.length c4)])=jK cs++[(Value.slice (some ⟨bb9,0,none⟩) 1 1,[⟨t.s,7,false,0⟩]),(Value.slice A4 rl.length c4,rl)]by unfold jK;rw[bJ];rfl,aKz];exact fA (.cells PU) (fH _)
 ·obtain rfl:i=E.length:=by omega
  rw[aq];try repeat' (refine KZ ?_)
  refine gO (L' :=.inl ⟨br,73,3,_⟩::TB E.length st.ins st.ops ⟨.slice As9 cs.length cs9,ib,ob,cs⟩) (eB (.refl _) (bY _ (fH _))) ?_;exact TM (Ls:=fun q=>TB E.length st.ins st.ops q) (Post:=fun _ v q=>v=.agg #[q.sv,.slice (some ⟨q.ib,0,none⟩) E.length E.length,.slice (some ⟨q.ob,0,none⟩) E.length E.length]∧scs q.cs=st.L) 1 ⟨.slice As9 cs.length cs9,ib,ob,cs⟩ bq rfl (RG (vs:=[.slice As9 cs.length cs9,.slice (some ⟨ib,0,none⟩) E.length E.length,.slice (some ⟨ob,0,none⟩) E.length E.length]) 0 rfl rfl rfl rfl rfl) rfl rfl (fun _ _=>⟨rfl,ad⟩)
end
end Go.Proofs.YtlllalmkkaolfaaGreatDoor
