/- Package scope's reference: every node. -/
import Derived.Test.YtlllalmkkaolfaaGreatDoorUar
set_option maxRecDepth 20000
set_option maxHeartbeats 2000000
namespace Go.Proofs.YtlllalmkkaolfaaGreatDoor
section
open Go.RowKit Go.Vcg
section
variable{E:List Fl}{n fu:Nat}
theorem aK5(t:T)(w:Wh)(s:FS):(pL t w s).scopes=s.scopes∧(pL t w s).funcs=s.funcs∧(pL t w s).uses.map HS=s.uses.map HS++[(w.scope,t.s,w.fn)]:=by
 unfold pL;refine⟨rfl,rfl,?_⟩;cases iD s.scopes w.scope t.s with
 |none=>simp[HS]
 |some ab=>simp[HS]
theorem VV{t:T}{up:Int}{kid fn i c:Nat}{w:Wh}{s:FS}{st:RS}(hA:AtG E (n+1) t up kid fn i c)(b:Rel i c s st)(h:w.fn=fn)(f:w.scope=inG E st.ins st.ops up kid)(h4:t.op≠4)(a:t.kids=[])(g:nmE E i=kT [] 0)(hu:mR E i=true):
 Rel (i+t.size) (c+jZ (gE (n+1) t up kid fn i c)) (pL t w s) (foldI (bI E) i t.size st)∧Ext st (foldI (bI E) i t.size st):=by
 have he:=hA.eat;have e:t.size=1:=by rw[aS,a];rfl
 have hc:jZ (gE (n+1) t up kid fn i c)=0:=by rw[gE,a,fE];unfold jZ;simp[h4]
 have key:bI E st i=⟨st.L,st.ins++[w.scope],st.ops++[-1],st.us++[(w.scope,t.s,(fn:Int))]⟩:=by unfold bI;rw[he];dsimp only;rw[hu,g,←f];rfl
 obtain⟨e1,e2,e3⟩:=aK5 t w s;rw[hc,e,foldI,foldI,key];exact⟨⟨b.L.trans e1.symm,by rw[e3,h];dsimp only;rw[b.us],by simp[b.li],by simp[b.lo],e2.trans b.fc⟩,⟨_,_,rfl,rfl⟩⟩
theorem RZ{α:Type}(g:FS→α→FS)(hg:∀s a,Eqv s (g s a)):∀(l:List α) (s:FS),Eqv s (l.foldl g s)
 |[],s=>Eqv.refl s
 |a::r,s=>by rw[bX];exact(hg s a).trans (RZ g hg r _)
theorem aLc(N:T→Wh→FS→FS)(t:T)(w:Wh)(s:FS):Eqv (vM N (t.kids.drop 1) w (N (cQ t 0) { w with decl:=true } s)) (AS N t w s):=by
 unfold AS;refine RZ _ (fun s x=>?_) _ _;cases iD s.scopes w.scope x with
 |none=>exact Eqv.refl _
 |some ab=>exact⟨rfl,rfl,rfl⟩
theorem BU{t:T}(h:1≤t.kids.length):t.kids=cQ t 0::t.kids.drop 1:=by
 cases hk:t.kids with
 |nil=>rw[hk]at h;simp at h
 |cons k r=>unfold cQ;rw[hk];rfl
theorem qW{F G:FS→T→Nat→FS}:∀(ks:List T) (j:Nat) (s:FS),(∀k jj s,j≤jj→F s k jj=G s k jj)→oX F ks j s=oX G ks j s
 |[],_,_,_=>rfl
 |k::r,j,s,h=>by rw[oX,oX,h k j s (aC _),qW r (j+1) _ fun k jj s a=>h k jj s (by omega)]
theorem WD(w:Wh)(l:List Bd)(s:FS):(eF w l s).fn=w.fn:=by unfold eF;split<;>rfl
theorem aKd(ih:∀m,m≤n→∀k,k.size≤m→dJ Vn k→∀f,k.size≤f→Good E m fu f k){t:T}(hs:t.size≤n+1)(hq:dJ Vn t){f:Nat}(hf:t.size≤f+1)(an:t.size≤fu){up:Int}{kid fn i c:Nat}{w:Wh}{s:FS}{st:RS}(hA:AtG E (n+1) t up kid fn i c)(y:Rel i c s st)(ai:w.scope=inG E st.ins st.ops up kid)(h4:t.op=4)(hu:mR E i=false):
 Rel (i+t.size) (c+jZ (gE (n+1) t up kid fn i c)) (HV (nbS fu f) fu t w s) (foldI (bI E) i t.size st)∧Ext st (foldI (bI E) i t.size st):=by
 have he:=hA.eat;have ab:=hq.here.fn h4;have ao:=KW hA hs h4 ab fu an;obtain⟨⟨p,d,b⟩,aa,hb⟩:=ab;have ae:cQ t 0=p:=by unfold cQ;rw[b];rfl
 have ad:cQ t 1=d:=by unfold cQ;rw[b];rfl
 rw[ad]at hb;rw[ae]at aa;have v:p∈t.kids:=by rw[b];exact aE ..
 have e:d∈t.kids:=by rw[b];exact bP (aE ..)
 have hp:=eN hs v;have hd:=eN hs e;have z:=aS t;have j:=hA.kids;rw[OM];unfold rQ kH at j⊢;rw[if_pos h4,if_pos h4,b]at j;rw[if_pos h4,if_pos h4,b];rw[b,bK,bK,show szs []=0 from rfl]at z;have ak:nmE E i=(dM fu t,1):=by unfold nmE;rw[he];dsimp only;rw[if_neg (by omega),if_pos h4,ao]
 rw[if_pos h4]at he;obtain⟨s2,u⟩:∃x,(if(!decide (t.s=⟨#[]⟩)&& !jG t 1)=true then kL 5 t.at' { w with fn:=((s.funcs+1:Nat):Int) } [⟨t.s,7,false,0⟩] { s with funcs:=s.funcs+1 }else{ s with funcs:=s.funcs+1 })=x:=⟨_,rfl⟩;obtain⟨w2,q⟩:∃x,(if(!decide (t.s=⟨#[]⟩)&& !jG t 1)=true then nG { w with fn:=((s.funcs+1:Nat):Int) } { s with funcs:=s.funcs+1 }else{ w with fn:=((s.funcs+1:Nat):Int) })=x:=⟨_,rfl⟩;have r:jC t=(!decide (t.s=⟨#[]⟩)&& !jG t 1):=by unfold jC;rw[decide_eq_true h4,bR]
 have e1:s2.uses=s.uses∧s2.funcs=c+1∧w2.fn=((c+1:Nat):Int)∧s2.scopes=(if jC t=true then st.L++[⟨w.scope,((c+1:Nat):Int),5,t.at',[⟨t.s,7,false,0⟩]⟩]else st.L)∧w2.scope=(if jC t=true then(st.L.length:Int)else w.scope):=by rw[r,←u,←q,y.L,←y.fc];cases(!decide (t.s=⟨#[]⟩)&& !jG t 1)<;>exact⟨rfl,rfl,rfl,rfl,rfl⟩
 obtain⟨e1,e2,e3,e4,e5⟩:=e1;have key:bI E st i=⟨s2.scopes++[⟨w2.scope,((c+1:Nat):Int),1,t.at',dM fu t⟩],st.ins++[w.scope],st.ops++[(s2.scopes.length:Int)],st.us⟩:=by unfold bI;rw[he];dsimp only;rw[hu,ak,←ai,if_pos h4,if_neg (show¬((1:Int)<0)by decide),e4,e5];rfl
 have h1:Rel (i+1) (c+1) (kL 1 t.at' w2 (dM fu t) s2) (bI E st i):=by
  rw[key];refine⟨?_,?_,by simp[y.li],by simp[y.lo],e2⟩
  ·unfold kL;dsimp only;rw[e3]
  ·show st.us=s2.uses.map HS
   rw[e1];exact y.us
 have h3:∀jj,inG E (bI E st i).ins (bI E st i).ops (i:Int) jj=(s2.scopes.length:Int):=fun jj=>by
  rw[key];unfold inG;dsimp only;rw[if_pos (by omega),aG,aP (by rw[y.lo];exact aC _),y.lo,cK,he];rw[if_neg (by
   rintro(h|h)
   ·simp at h;omega
   ·have:=h.1;dsimp only at this;omega)]
  rfl
 have hx0:Ext st (bI E st i):=by rw[key];exact⟨_,_,rfl,rfl⟩
 have a:(nG w2 s2).scope=(s2.scopes.length:Int)∧(nG w2 s2).fn=((c+1:Nat):Int):=⟨rfl,e3⟩;have af:HV (nbS fu f) fu t w s=(let s4:=nbS fu f p (nG w2 s2) (kL 1 t.at' w2 (dM fu t) s2);if d.op=6∧jG t 128=false then vM (nbS fu f) d.kids (nG w2 s2) s4 else nbS fu f d (nG w2 s2) s4):=by rw[←u,←q,←ae,←ad];rfl
 rw[af,z];clear af u q;generalize kL 1 t.at' w2 (dM fu t) s2=s3 at h1⊢;generalize nG w2 s2=w3 at a⊢;obtain⟨st1,o⟩:∃x,bI E st i=x:=⟨_,rfl⟩;rw[o]at h1 h3 hx0;dsimp only;obtain⟨g1,g2⟩:=ih n (aC _) p hp (hq.kid v) f (eN hf v) (i:Int) 0 (c+1) (i+1) (c+1) w3 s3 st1 j.hd h1 a.2 (by rw[a.1,h3]) (fun h=>by rw[aG,he]at h;exact absurd h.2.1 (by dsimp only;omega)) (fun h=>by omega);have e6:c+1+jZ (fE (gE n) [p,d] (i:Int) 0 (c+1) (i+1) (c+1))=c+1+jZ (gE n p (i:Int) 0 (c+1) (i+1) (c+1))+jZ (gE n d (i:Int) 1 (c+1) (i+1+p.size) (c+1+jZ (gE n p (i:Int) 0 (c+1) (i+1) (c+1)))):=by rw[fE,qB,fE,fE,eD,bG];omega
 have e7:foldI (bI E) i (1+ (p.size+ (d.size+0))) st=foldI (bI E) (i+1+p.size) d.size (foldI (bI E) (i+1) p.size st1):=by rw[bZ,kR _ 1,kR,foldI,foldI,o]
 rw[e6,e7,show i+ (1+ (p.size+ (d.size+0)))=i+1+p.size+d.size by omega];have hD:=(j.tl hp).hd;generalize c+1+jZ (gE n p (i:Int) 0 (c+1) (i+1) (c+1))=c2 at g1 hD⊢;generalize nbS fu f p w3 s3=s4 at g1⊢;have hin:w3.scope=inG E (foldI (bI E) (i+1) p.size st1).ins (foldI (bI E) (i+1) p.size st1).ops (i:Int) 1:=by rw[g2.inG E ⟨h1.li,h1.lo⟩ (by omega),a.1,h3]
 generalize foldI (bI E) (i+1) p.size st1=st4 at g1 g2 hin⊢;have hx:Ext st st4:=hx0.trans g2;rcases hb with⟨g,ah⟩|⟨g,ah⟩
 ·rw[if_pos ⟨g,ah⟩];obtain⟨m,rfl⟩:∃x,n=x+1:=⟨n-1,by have:=aS d;omega⟩;have ag:=hD.eat;obtain⟨q1,q2⟩:=pC (l:=[]) (kind:=2) (w:=w3) (fun k hk aj f al=>ih m (by omega) k hk aj f al) hd (hq.kid e) hD g1 a.2 hin (by omega) (by omega) (by decide) (by
   unfold nmE;rw[ag];dsimp only;rw[if_neg (by omega),if_neg (by omega),if_pos g,if_neg (fun h=>h.2 (by rw[aG,he];exact h4))]) (LG ag (by dsimp only;omega) (fun h=>by rw[aG,he]at h;exact absurd h.2.1 (by dsimp only;omega)))
   (fun x k _=>nbS fu f k w3 x) (fun _=>w3.scope) (fun jj=>by split<;>rfl) (fun k jj x hk=>⟨f,w3,x,eN (by have:=eN hf e;omega) hk,Eqv.refl _,Eqv.refl _,a.2,rfl⟩)
  rw[lJ (nbS fu f) w3]at q1;exact⟨q1,hx.trans q2⟩
 ·rw[if_neg (fun h=>g h.1)];obtain⟨q1,q2⟩:=ih n (aC _) d hd (hq.kid e) f (eN hf e) (i:Int) 1 (c+1) (i+1+p.size) c2 w3 s4 st4 hD g1 a.2 hin (fun h=>by have:=h.2.2.2;omega) (fun h=>absurd h g);exact⟨q1,hx.trans q2⟩
theorem aC8{t:T}{l:List Bd}:bF [t] false l=if t.op=2∧t.n≠0 then eM t l else l:=by
 unfold bF;simp only[bX,List.foldl_nil,gU];split<;>rfl
theorem aFt(ih:∀m,m≤n→∀k,k.size≤m→dJ Vn k→∀f,k.size≤f→Good E m fu f k)(t:T)(hs:t.size≤n+1)(hq:dJ Vn t)(f:Nat)(hf:t.size≤f+1)(y:t.size≤fu):Good E (n+1) fu (f+1) t:=by
 intro up kid fn i c w s st hA o a e ad h6;have he:=hA.eat;have het:(aH E i).t=t:=by rw[he]
 have ab:(aH E i).up=up:=by rw[he]
 have hV:=hq.here;have b:∀k∈t.kids,k.size≤f:=fun k hk=>eN hf hk;have hu:t.op≠34→mR E i=false:=fun ae=>LG he ae ad;have ih0:=ih n (aC _);have g:∀l s,(eF w l s).fn=fn:=fun l s=>by rw[WD,a]
 show Rel _ _ (yS (nbS fu f) fu t w s) _∧_
 unfold yS;by_cases o34:t.op=34
 ·rw[if_pos o34];exact VV hA o a e (by omega) (hV.nam o34) (zP het (by omega)) (by unfold mR;rw[het,decide_eq_true o34];rfl)
 rw[if_neg o34];have hu:=hu o34;have p1:=hV.pr;by_cases o4:t.op=4
 ·rw[if_pos o4];exact aKd (w:={ w with decl:=false }) ih hs hq hf y hA o e o4 hu
 rw[if_neg o4];by_cases o6:t.op=6
 ·rw[if_pos o6];obtain⟨g1,g2⟩:=pC (l:=bF t.kids true []) (kind:=2) ih0 hs hq hA o a e o4 (by omega) (by decide) (by
   unfold nmE;rw[het];dsimp only;rw[if_neg p1,if_neg o4,if_pos o6,ab,if_pos (h6 o6)]) hu (fun x k _=>nbS fu f k (eF w (bF t.kids true []) s) x) (fun _=>(eF w (bF t.kids true []) s).scope) (fun jj=>by rw[if_neg (by omega)]) (fun k jj x hk=>⟨f,_,x,b k hk,Eqv.refl _,Eqv.refl _,g _ _,rfl⟩)
  rw[lJ (nbS fu f)]at g1;exact⟨g1,g2⟩
 rw[if_neg o6];by_cases o21:t.op=21
 ·rw[if_pos o21];obtain⟨l,hl⟩:∃l,(t.kids.drop 1).foldl (fun l k=>bF k.kids true l) []=l:=⟨_,rfl⟩;have hne:=BU (hV.one (by omega));obtain⟨g1,g2⟩:=pC (l:=l) (kind:=2) ih0 hs hq hA o a e o4 (by omega) (by decide) (by
   unfold nmE;rw[het];dsimp only;rw[if_neg p1,if_neg o4,if_neg o6,if_pos o21,hl]) hu (fun x k jj=>if jj=0 then nbS fu f k w x else nbS fu f k (eF w l s) (if(eF w l s).scope≠w.scope then{ x with cases:=iS (eF w l s).scope ((jj-1:Nat):Int) x.cases }else x)) (fun jj=>if t.op=21∧jj=0 then w.scope else(eF w l s).scope) (fun jj=>rfl) (fun k jj x hk=>by
    by_cases r:jj=0
    ·exact⟨f,w,x,b k hk,Eqv.refl _,by rw[if_pos r];exact Eqv.refl _,a,by rw[if_pos ⟨o21,r⟩]⟩
    ·refine⟨f,eF w l s,(if(eF w l s).scope≠w.scope then{ x with cases:=iS (eF w l s).scope ((jj-1:Nat):Int) x.cases }else x),b k hk,by split<;>exact⟨rfl,rfl,rfl⟩,by rw[if_neg r];exact Eqv.refl _,g _ _,by rw[if_neg (fun h=>r h.2)]⟩)
  refine⟨?_,g2⟩;rw[hne,oX,if_pos rfl]at g1;unfold rN;rw[hl];dsimp only;rw[sI,AJ];rw[qW (G:=fun s k j=>nbS fu f k (eF w l _) (if(eF w l _).scope≠w.scope then{ s with cases:=iS (eF w l _).scope ((j-1:Nat):Int) s.cases }else s))]at g1
  ·exact g1
  ·intro k jj x r;rw[if_neg (by omega)]
 rw[if_neg o21];by_cases ol:t.op=10∨t.op=11∨t.op=12
 ·rw [if_pos ol];obtain⟨l,hl⟩:∃l,bF [cQ t 0] false []=l:=⟨_,rfl⟩;have v:(if(decide ((cQ t 0).op=2)&& !decide ((cQ t 0).n=0))=true then iJ 3 t.at' w (eM (cQ t 0) []) s else s)=iJ 3 t.at' w l s∧(if(decide ((cQ t 0).op=2)&& !decide ((cQ t 0).n=0))=true then eF w (eM (cQ t 0) []) s else w)=eF w l s:=by
   rw[←hl,aC8];by_cases h2:(cQ t 0).op=2∧(cQ t 0).n≠0
   ·rw[if_pos h2,decide_eq_true h2.1,decide_eq_false h2.2];exact⟨rfl,rfl⟩
   ·rw[if_neg h2,if_neg (by
     rw[aM];intro h;exact h2 ⟨of_decide_eq_true h.1,by simpa using h.2⟩),if_neg (by
     rw[aM];intro h;exact h2 ⟨of_decide_eq_true h.1,by simpa using h.2⟩)]
    exact⟨rfl,rfl⟩
  obtain⟨g1,g2⟩:=pC (l:=l) (kind:=3) ih0 hs hq hA o a e o4 (by omega) (by decide) (by
   unfold nmE;rw[het];dsimp only;rw[if_neg p1,if_neg o4,if_neg o6,if_neg o21,if_pos ol,hl]) hu (fun x k jj=>if jj=1∧t.op≠10∧(eF w l s).scope≠w.scope then
    { nbS fu f k (eF w l s) { x with heads:=iS (eF w l s).scope true x.heads }with heads:=tJ (eF w l s).scope (nbS fu f k (eF w l s) { x with heads:=iS (eF w l s).scope true x.heads }).heads }else nbS fu f k (eF w l s) x) (fun _=>(eF w l s).scope) (fun jj=>by rw[if_neg (by omega)]) (fun k jj x hk=>by
    dsimp only;split
    ·exact⟨f,eF w l s,{ x with heads:=iS (eF w l s).scope true x.heads },b k hk,⟨rfl,rfl,rfl⟩,⟨rfl,rfl,rfl⟩,g _ _,rfl⟩
    ·exact⟨f,eF w l s,x,b k hk,Eqv.refl _,Eqv.refl _,g _ _,rfl⟩)
  refine⟨?_,g2⟩;unfold zS;dsimp only;rw[v.1,v.2,sI];exact g1
 rw[if_neg ol];by_cases o20:t.op=20
 ·rw[if_pos o20];obtain⟨g1,g2⟩:=pC (l:=dT 5 (bB (cQ t 0)) []) (kind:=4) ih0 hs hq hA o a e o4 (by omega) (by decide) (by
   unfold nmE;rw[het];dsimp only;rw[if_neg p1,if_neg o4,if_neg o6,if_neg o21,if_neg ol,if_pos o20]) hu (fun x k _=>nbS fu f k (eF w (dT 5 (bB (cQ t 0)) []) s) x) (fun _=>(eF w (dT 5 (bB (cQ t 0)) []) s).scope) (fun jj=>by rw[if_neg (by omega)]) (fun k jj x hk=>⟨f,_,x,b k hk,Eqv.refl _,Eqv.refl _,g _ _,rfl⟩)
  rw[lJ (nbS fu f)]at g1;exact⟨g1,g2⟩
 rw[if_neg o20];have p:=zP het ⟨p1,o4,o6,o21,fun h=>ol (.inl h),fun h=>ol (.inr (.inl h)),fun h=>ol (.inr (.inr h)),o20⟩;by_cases o3:t.op=3
 ·rw[if_pos o3];have hne:=BU (hV.one (by omega));obtain⟨g1,g2⟩:=pC (l:=[]) (kind:=0) ih0 hs hq hA o a e o4 (by omega) (by decide) p hu (fun x k jj=>if jj=0 then nbS fu f k { w with decl:=true } x else nbS fu f k w x) (fun _=>w.scope) (fun jj=>by rw[if_neg (by omega)];rfl) (fun k jj x hk=>by
   split
   ·exact⟨f,{ w with decl:=true },x,b k hk,Eqv.refl _,Eqv.refl _,a,rfl⟩
   ·exact⟨f,w,x,b k hk,Eqv.refl _,Eqv.refl _,a,rfl⟩)
  refine⟨?_,g2⟩;rw[hne,oX,if_pos rfl]at g1;rw[qW (G:=fun s k _=>nbS fu f k w s) _ _ _ (fun k jj x r=>by rw[if_neg (by omega)]),lJ (nbS fu f)]at g1;exact g1.eqv (aLc (nbS fu f) t w s)
 rw[if_neg o3];by_cases o39:t.op=39
 ·rw[if_pos o39];by_cases n3:t.n=3
  ·rw[if_pos n3];obtain⟨k,hk,k31,kk⟩:=hV.sht o39 n3;have aa:cQ t 0=k:=by unfold cQ;rw[hk];rfl
   obtain⟨h1,h2,h3⟩:=BW (l:=[]) (kind:=0) hA o a e o4 (by decide) p hu;have q:=hA.kids;rw[OM];unfold rQ kH at q⊢;rw[if_neg o4,if_neg o4,hk]at q;rw[if_neg o4,if_neg o4,hk,aa];have u:=aS t;rw[hk,bK,show szs []=0 from rfl]at u;have af:k.size≤n:=eN hs (by rw[hk];exact aE ..);obtain⟨m,rfl⟩:∃x,n=x+1:=⟨n-1,by have:=aS k;omega⟩;have hK:=q.hd;have z:=hK.eat;obtain⟨g1,g2⟩:=VV (w:=w) (s:=s) hK h1 a (by rw[h3,if_neg (fun h=>o21 h.1)];rfl) (by omega) kk (zP (t:=k) (by rw[z]) (by omega)) (by
    unfold mR;rw[z];dsimp only;rw[aG,het,decide_eq_true o39,decide_eq_true n3,decide_eq_true (show(0:Int)≤(i:Int)by omega)];simp)
   rw[fE,fE,eD,u,bZ,←cW,kR,foldI,foldI];exact⟨g1,h2.trans g2⟩
  ·rw[if_neg n3];obtain⟨g1,g2⟩:=pC (l:=[]) (kind:=0) ih0 hs hq hA o a e o4 (fun h=>n3 h.2) (by decide) p hu (fun x k _=>nbS fu f k w x) (fun _=>w.scope) (fun jj=>by rw[if_neg (by omega)];rfl) (fun k jj x hk=>⟨f,w,x,b k hk,Eqv.refl _,Eqv.refl _,a,rfl⟩);rw[lJ (nbS fu f)]at g1;exact⟨g1,g2⟩
 rw[if_neg o39];obtain⟨g1,g2⟩:=pC (l:=[]) (kind:=0) ih0 hs hq hA o a e o4 (fun h=>o39 h.1) (by decide) p hu (fun x k jj=>if t.op=60∨t.op=61∨t.op=64∨(t.op=63∧jj=0)∨(t.op=62∧jj=1)then nbS fu f k w x else nbS fu f k { w with decl:=false } x) (fun _=>w.scope) (fun jj=>by rw[if_neg (by omega)];rfl) (fun k jj x hk=>by
  split
  ·exact⟨f,w,x,b k hk,Eqv.refl _,Eqv.refl _,a,rfl⟩
  ·exact⟨f,{ w with decl:=false },x,b k hk,Eqv.refl _,Eqv.refl _,a,rfl⟩)
 refine⟨?_,g2⟩;unfold uQ;rw[sI];exact g1
theorem OW:∀(n:Nat),n≤fu→∀(k:T),k.size≤n→dJ Vn k→∀f,k.size≤f→Good E n fu f k:=by
 intro n;induction n using Nat.strongRecOn with
 | ind n ih=>
   intro hn k hk hq f hf;have a:=aS k;obtain⟨n,rfl⟩:∃x,n=x+1:=⟨n-1,by omega⟩;obtain⟨f,rfl⟩:∃x,f=x+1:=⟨f-1,by omega⟩;exact aFt (fun m hm k hk hq f hf=>ih m (by omega) (by omega) k hk hq f hf) k hk hq f hf (by omega)
end
end
section
open Go.RowKit Go.Vcg
def Qc(op:Int):Prop:=op≠1
theorem SE(p:T→Bool)(m:Int):∀(l:List T) (n:Nat),∃e,l=e++(oC p m n l).2∧∀k∈e,p k=true
 |[],n=>⟨[],rfl,by simp⟩
 | k::r,n=>by
   unfold oC;split
   ·rename_i h;obtain⟨e,h1,h2⟩:=SE p m r (n+1);refine⟨k::e,by rw[aU,←h1],fun x a=>?_⟩;rcases aR.1 a with rfl|a
    ·exact h.1
    ·exact h2 x a
   ·exact⟨[],rfl,by simp⟩
theorem nI:∀(rs:List ((T→Bool)×Int)) (l:List T),dS rs l=true→∀k∈l,∃r∈rs,r.1 k=true
 | [],l,h,k,hk=>by simp[dS]at h;subst h;cases hk
 | (p,m)::rs,l,h,k,hk=>by
   unfold dS at h;split at h
   ·cases h
   ·obtain⟨e,h1,h2⟩:=SE p m l 0;rw[h1]at hk;rcases List.mem_append.1 hk with hk|hk
    ·exact⟨(p,m),aE ..,h2 k hk⟩
    ·obtain⟨r,hr,a⟩:=nI rs _ h k hk;exact⟨r,bP hr,a⟩
theorem xI{p:T→Bool}{a b:Int}{l:List T}(h:jL p a b l=true):∀k∈l,p k=true:=by
 unfold jL at h;simp only[aM,eJ]at h;exact h.2
theorem CC{ps:List (T→Bool)}{l:List T}(h:dS (eK ps) l=true):∀k∈l,∃p∈ps,p k=true:=fun k hk=>by
 obtain⟨r,hr,b⟩:=nI _ _ h k hk;obtain⟨p,a,rfl⟩:=List.mem_map.1 hr;exact⟨p,a,b⟩
theorem mM{k:T}(h:bT k=true):Qc k.op:=by
 unfold bT at h;split at h
 ·unfold Qc;omega
 ·simp at h;unfold Qc;omega
theorem WX{is:List Int}{k:T}(h:ofT is k=true)(hi:∀i∈is,Qc i):Qc k.op:=by
 unfold ofT at h;exact hi _ (by simpa using h)
theorem tC{k:T}(h:dC k=true):Qc k.op:=by
 simp[dC,hH]at h;unfold Qc;omega
theorem WW{k:T}(h:hH k=true):Qc k.op:=by
 simp[hH]at h;unfold Qc;omega
theorem aIu{k:T}{m:Int}(h:gL k m=true):Qc k.op:=by
 unfold gL at h;simp at h;unfold Qc;omega
theorem aIt{k:T}(h:rS k=true):Qc k.op:=by
 simp[rS,eiT]at h;rcases h with h|h
 ·exact tC h
 ·exact WX h (by simp[Qc])
theorem aPy{t k:T}(h:pO t k=true):Qc k.op:=by
 unfold pO at h;split at h
 ·exact mM h
 ·exact WX h (by simp[Qc])
theorem tN{ps:List (T→Bool)}{l:List T}(h:dS (eK ps) l=true)(hq:∀p∈ps,∀k,p k=true→Qc k.op):∀k∈l,Qc k.op:=fun k hk=>by
 obtain⟨p,b,a⟩:=CC h k hk;exact hq p b k a
theorem QK{rs:List ((T→Bool)×Int)}{l:List T}(h:dS rs l=true)(hq:∀r∈rs,∀k,r.1 k=true→Qc k.op):∀k∈l,Qc k.op:=fun k hk=>by
 obtain⟨r,hr,a⟩:=nI _ _ h k hk;exact hq r hr k a
theorem zJ{p:T→Bool}{a b:Int}{l:List T}(h:jL p a b l=true)(hq:∀k,p k=true→Qc k.op):∀k∈l,Qc k.op:=fun k hk=>hq k (xI h k hk)
theorem aIr{l:List T}(h:decide (l.length=0)=true):∀k∈l,Qc k.op:=fun k hk=>by
 have:l=[]:=bV (by simpa using h);subst this;cases hk
theorem aU9{t:T}(h:exB t=true):∀k∈t.kids,Qc k.op:=by
 unfold exB at h;by_cases ab:t.op=30∨t.op=31∨t.op=32∨t.op=33∨t.op=34∨t.op=35∨t.op=40
 ·rw[if_pos ab]at h;exact aIr h
 rw[if_neg ab]at h;by_cases aa:t.op=36
 ·rw[if_pos aa]at h;have a:=CD h;intro k hk;obtain⟨i,hi⟩:=List.mem_iff_getElem?.1 hk;have:=a.2 i k hi;unfold EX at this;split at this
  ·unfold Qc;omega
  ·exact mM this
 rw[if_neg aa]at h;by_cases z:t.op=37
 ·rw[if_pos z]at h;refine zJ h fun k hk=>?_;simp[eiT]at hk;rcases hk with hk|hk
  ·exact mM hk
  ·exact WX hk (by simp[Qc])
 rw[if_neg z]at h;by_cases y:t.op=38
 ·rw[if_pos y]at h;exact zJ h fun k hk=>WX hk (by simp[Qc])
 rw[if_neg y]at h;by_cases w:t.op=39
 ·rw[if_pos w]at h;unfold rC at h;have key:∀{q:T→Bool},dS (eK [pO t,q]) t.kids=true→(∀k,q k=true→Qc k.op)→∀k∈t.kids,Qc k.op:=fun h hq=>tN h (by
   intro p a k hk;simp at a;rcases a with rfl|rfl
   ·exact aPy hk
   ·exact hq k hk)
  split at h
  ·exact key h fun k hk=>mM hk
  split at h
  ·exact key h fun k hk=>by simp[DW]at hk;exact aIu hk.1
  split at h
  ·exact key h fun k hk=>by simp[zB]at hk;exact aIu hk.1
  split at h
  ·exact key h fun k hk=>aIu hk
  split at h
  ·refine tN h fun p a k hk=>?_;simp at a;subst a;simp[oK]at hk;unfold Qc;omega
  ·refine tN h fun p a k hk=>?_;simp at a;subst a;exact mM hk
 rw[if_neg w]at h;by_cases v:t.op=41∨t.op=42
 ·rw[if_pos v]at h;refine tN h fun p a k hk=>?_;simp at a;subst a;exact mM hk
 rw[if_neg v]at h;by_cases u:t.op=43
 ·rw[if_pos u]at h;refine tN h fun p a k hk=>?_;simp at a;subst a;exact WW hk
 rw[if_neg u]at h;by_cases o:t.op=44∨t.op=45∨t.op=52
 ·rw[if_pos o]at h;exact zJ h fun k hk=>mM hk
 rw[if_neg o]at h;by_cases l:t.op=46
 ·rw[if_pos l]at h;split at h
  ·refine tN h fun p a k hk=>?_;simp at a;rcases a with rfl|rfl
   ·exact tC hk
   ·exact mM hk
  ·refine tN h fun p a k hk=>?_;simp at a;rcases a with rfl|rfl
   ·exact WW hk
   ·exact mM hk
 rw[if_neg l]at h;by_cases j:t.op=47
 ·rw[if_pos j]at h;exact zJ h fun k hk=>mM hk
 rw[if_neg j]at h;by_cases g:t.op=48
 ·rw[if_pos g]at h;exact zJ h fun k hk=>mM hk
 rw[if_neg g]at h;by_cases f:t.op=49∨t.op=50
 ·rw[if_pos f]at h;refine QK h fun r hr k hk=>?_;simp at hr;rcases hr with rfl|rfl
  ·exact mM hk
  ·simp[GS,eiT]at hk;rcases hk with hk|hk
   ·exact mM hk
   ·exact WX hk (by simp[Qc])
 rw[if_neg f]at h;by_cases e:t.op=51
 ·rw[if_pos e]at h;exact zJ h fun k hk=>mM hk
 rw[if_neg e]at h;by_cases c:t.op=53
 ·rw[if_pos c]at h;unfold sM at h;split at h
  ·rename_i k ad;intro x hx;rw[ad]at hx;simp at hx;subst hx;have hc:=CD h;have hl:iC x=true:=by cases hc<;>assumption
   simp[iC]at hl;unfold Qc;omega
  ·cases h
 rw[if_neg c]at h;by_cases b:t.op=54
 ·rw[if_pos b]at h;exact zJ h fun k hk=>mM hk
 rw[if_neg b]at h
 ·unfold iA at h;split at h
  ·refine QK h fun r hr k hk=>?_;simp at hr;rcases hr with rfl|rfl
   ·simp[eiT]at hk;rcases hk with hk|hk
    ·exact aIt hk
    ·exact WX hk (by simp[Qc])
   ·exact WX hk (by simp[Qc])
  split at h
  ·refine QK h fun r hr k hk=>?_;simp at hr;rcases hr with rfl|rfl<;>exact WX hk (by simp[Qc])
  split at h
  ·refine tN h fun p a k hk=>?_;simp at a;rcases a with rfl|rfl
   ·exact aPy hk
   ·exact aIt hk
  split at h
  ·refine tN h fun p a k hk=>?_;simp at a;rcases a with rfl|rfl
   ·exact tC hk
   ·exact mM hk
  split at h
  ·refine tN h fun p a k hk=>?_;simp at a;subst a;exact tC hk
  ·cases h
theorem TP{k:T}(h:fN k=true):Qc k.op:=by
 unfold fN at h;unfold Qc;split at h
 ·omega
 ·simp at h;omega
theorem aRh{k:T}(h:rR k=true):Qc k.op:=by
 unfold rR at h;simp at h;rcases h with h|h
 ·exact tC h
 ·unfold Qc;omega
theorem aRi{ps:List (T→Bool)}{k:T}(h:eiT ps k=true)(hq:∀p∈ps,∀k,p k=true→Qc k.op):Qc k.op:=by
 unfold eiT at h;obtain⟨p,a,h⟩:=List.any_eq_true.1 h;exact hq p a k h
theorem aU8{t:T}(h:stB t=true):∀k∈t.kids,Qc k.op:=by
 have of7:∀{is:List Int} {k:T},ofT is k=true→(1:Int)∉is→Qc k.op:=fun{is k} h hn=>by
  unfold ofT at h;have h2:k.op∈is:=by simpa using h
  intro e;rw[e]at h2;exact hn h2
 unfold stB at h;by_cases c1:t.op=1∨t.op=6
 ·rw[if_pos c1]at h;exact zJ h fun k hk=>TP hk
 rw[if_neg c1]at h;by_cases c2:t.op=2
 ·rw[if_pos c2]at h;exact zJ h fun k hk=>of7 hk (by simp)
 rw[if_neg c2]at h;by_cases c3:t.op=3
 ·rw[if_pos c3]at h;refine QK h fun r hr k hk=>?_;simp at hr;rcases hr with rfl|rfl
  ·exact tC hk
  ·exact mM hk
 rw[if_neg c3]at h;by_cases c4:t.op=4
 ·rw[if_pos c4]at h;refine tN h fun p a k hk=>?_;simp at a;rcases a with rfl|rfl
  ·exact of7 hk (by simp)
  ·unfold xN at hk;split at hk
   ·exact mM hk
   ·exact of7 hk (by simp)
 rw[if_neg c4]at h;by_cases c5:t.op=5
 ·rw[if_pos c5]at h;refine QK h fun r hr k hk=>?_;simp at hr;rcases hr with rfl|rfl
  ·refine aRi hk fun p a k hk=>?_;simp at a;rcases a with rfl|rfl
   ·exact tC hk
   ·exact of7 hk (by simp)
  ·exact of7 hk (by simp)
 rw[if_neg c5]at h;by_cases c7:t.op=7∨t.op=15∨t.op=16
 ·rw[if_pos c7]at h;exact aIr h
 rw[if_neg c7]at h;have ex7:∀{k:T},eiT [bT,ofT [7]] k=true→Qc k.op:=fun h=>aRi h fun p a k hk=>by
  simp at a;rcases a with rfl|rfl
  ·exact mM hk
  ·exact of7 hk (by simp)
 have ta7:∀{k:T},eiT [dC,ofT [7]] k=true→Qc k.op:=fun h=>aRi h fun p a k hk=>by
  simp at a;rcases a with rfl|rfl
  ·exact tC hk
  ·exact of7 hk (by simp)
 have each:∀{ps:List (T→Bool)} {l:List T},dS (eK ps) l=true→(∀p∈ps,(p=bT∨p=fN∨p=rR∨p=eiT [bT,ofT [7]]∨p=eiT [dC,ofT [7]]∨∃is,p=ofT is∧(1:Int)∉is))→∀k∈l,Qc k.op:=fun h hq=>tN h fun p a k hk=>by
  rcases hq p a with rfl|rfl|rfl|rfl|rfl|⟨is,rfl,hi⟩
  ·exact mM hk
  ·exact TP hk
  ·exact aRh hk
  ·exact ex7 hk
  ·exact ta7 hk
  ·exact of7 hk hi
 have row:∀{rs:List ((T→Bool)×Int)} {l:List T},dS rs l=true→(∀r∈rs,(r.1=bT∨r.1=fN∨∃is,r.1=ofT is∧(1:Int)∉is))→∀k∈l,Qc k.op:=fun h hq=>QK h fun r hr k hk=>by
  rcases hq r hr with e|e|⟨is,e,hi⟩
  ·rw[e]at hk;exact mM hk
  ·rw[e]at hk;exact TP hk
  ·rw[e]at hk;exact of7 hk hi
 by_cases c8:t.op=8∨t.op=18
 ·rw[if_pos c8]at h;exact each h (by simp)
 rw[if_neg c8]at h;by_cases c9:t.op=9
 ·rw[if_pos c9]at h;exact row h (by simp)
 rw[if_neg c9]at h;by_cases c10:t.op=10
 ·rw[if_pos c10]at h;refine each h fun p a=>?_;simp at a;rcases a with rfl|rfl|rfl
  ·exact .inr (.inr (.inr (.inr (.inr ⟨_,rfl,by simp⟩))))
  ·exact .inr (.inr (.inr (.inl rfl)))
  ·exact .inr (.inl rfl)
 rw[if_neg c10]at h;by_cases c11:t.op=11∨t.op=12
 ·rw[if_pos c11]at h;exact each h (by simp)
 rw[if_neg c11]at h;by_cases c13:t.op=13
 ·rw[if_pos c13]at h;exact each h (by simp)
 rw[if_neg c13]at h;by_cases c14:t.op=14
 ·rw[if_pos c14]at h;exact each h (by simp)
 rw[if_neg c14]at h;by_cases c17:t.op=17
 ·rw[if_pos c17]at h;exact zJ h fun k hk=>mM hk
 rw[if_neg c17]at h;by_cases c20:t.op=20
 ·rw[if_pos c20]at h;refine each h fun p a=>?_;simp at a;rcases a with rfl|rfl
  ·exact .inr (.inr (.inr (.inr (.inl rfl))))
  ·exact .inr (.inr (.inr (.inr (.inr ⟨_,rfl,by simp⟩))))
 rw[if_neg c20]at h;by_cases c21:t.op=21
 ·rw[if_pos c21]at h;refine row h fun r hr=>?_;simp at hr;rcases hr with rfl|rfl
  ·exact .inl rfl
  ·exact .inr (.inr ⟨_,rfl,by simp⟩)
 rw[if_neg c21]at h;by_cases c22:t.op=22
 ·rw[if_pos c22]at h;split at h
  ·exact zJ h fun k hk=>TP hk
  ·exact row h (by simp)
 rw[if_neg c22]at h;by_cases c19:t.op=19
 ·rw[if_pos c19]at h;unfold PE at h;rw[aM]at h;refine each h.1 fun p a=>?_;simp at a;rcases a with rfl|rfl|rfl<;>exact .inr (.inr (.inr (.inr (.inr ⟨_,rfl,by simp⟩))))
 rw[if_neg c19]at h;exact each h (by simp)
theorem aIs{t:T}(h:bD t=true):∀k∈t.kids,k.op≠1:=by
 unfold bD at h;split at h
 ·exact aU8 h
 ·exact aU9 h
theorem aO4(t:T)(m:Int):jG t m=gL t m:=rfl
theorem UR{t:T}{d:Nat}{s:Bool}(h:Rt t d s)(h4:t.op=4):aPi t:=by
 cases h with
 | mk hd hn hk hr=>
   unfold bD stB at hk;rw[if_pos (by omega),if_neg (by omega),if_neg (by omega),if_neg (by omega),if_pos h4]at hk;obtain⟨p,r,h1,e,h2⟩:=iU hk;obtain⟨b,r2,h3,hb,h5⟩:=iU h2;have h6:=rJ h5;subst h6 h3;have a:cQ t 1=b:=by unfold cQ;rw[h1];rfl
   refine⟨⟨p,b,h1⟩,by unfold cQ;rw[h1];simpa[ofT]using e,?_⟩;rw[a,aO4];unfold xN at hb;cases c:gL t 128 with
   | true=>
     rw[c,if_pos rfl]at hb;refine .inr ⟨?_,rfl⟩;unfold bT at hb;split at hb
     ·omega
     ·simp at hb;omega
   | false=>
     rw[c,if_neg (by simp)]at hb;exact .inl ⟨by simpa[ofT]using hb,rfl⟩
theorem aPl{t:T}{d:Nat}{s:Bool}(h:Rt t d s)(h1:t.op≠1):Vn t:=by
 have a:=YB h;refine⟨fun h4=>UR h h4,fun o39 n3=>?_,fun ho=>?_,fun o34=>?_,h1⟩
 ·cases h with
  | mk hd hn hk hr=>
    unfold bD exB at hk;rw[if_neg (by omega),if_neg (by omega),if_neg (by omega),if_neg (by omega),if_neg (by omega),if_pos o39]at hk;unfold rC at hk;rw[if_neg (by omega),if_neg (by omega),if_neg (by omega),if_neg (by omega),if_pos n3]at hk;obtain⟨k,r,e1,e,h2⟩:=iU hk;have h6:=rJ h2;subst h6;have k31:k.op=31:=by simp[oK]at e;exact e.1
    refine⟨k,e1,k31,?_⟩;have c:=hr 0 k (by rw[e1];rfl);cases c with
    | mk _ _ b _=>
      unfold bD exB at b;rw[if_neg (by omega),if_pos (by omega)]at b;exact bV (by simpa using b)
 ·by_cases h3:t.op=3
  ·exact a.dec h3
  ·by_cases f:t.op=20
   ·have:=a.kc.two (by omega);omega
   ·exact a.kc.one (by omega)
 ·cases h with
  | mk hd hn hk hr=>
    unfold bD exB at hk;rw[if_neg (by omega),if_pos (by omega)]at hk;exact bV (by simpa using hk)
theorem aPd(t:T):∀(d:Nat) (s:Bool),Rt t d s→t.op≠1→dJ Vn t:=T.aBy (p:=fun t=>∀(d:Nat) (s:Bool),Rt t d s→t.op≠1→dJ Vn t) (fun t ih d s h h1=>by
 refine .mk (aPl h h1) fun k hk=>?_;obtain⟨i,hi⟩:=List.mem_iff_getElem?.1 hk;cases h with
 |mk _ _ a hr=>exact ih k hk _ _ (hr i k hi) (aIs a k hk)) t
theorem UB{t:T}{d:Nat}{s:Bool}(h:Rt t d s):∀k∈t.kids,dJ Vn k:=fun k hk=>by
 obtain⟨i,hi⟩:=List.mem_iff_getElem?.1 hk;cases h with
 |mk _ _ a hr=>exact aPd k _ _ (hr i k hi) (aIs a k hk)
def eO(t:T):List Fl:=gE t.size t (-1) 0 0 0 0
def kO:RS:=⟨[],[],[],[]⟩
theorem run_eq{t:T}(i:t.op=1)(g:rtB t 1 false=true)(f:Nat)(hf:t.size≤f):(foldI (bI (eO t)) 0 t.size kO).L=(gS f t).scopes∧(foldI (bI (eO t)) 0 t.size kO).us=(gS f t).uses.map HS∧(foldI (bI (eO t)) 0 t.size kO).ins.length=t.size∧(foldI (bI (eO t)) 0 t.size kO).ops.length=t.size:=by
 have c:=aS t;obtain⟨n,hn⟩:∃n,t.size=n+1:=⟨t.size-1,by omega⟩;have hA:AtG (eO t) (n+1) t (-1) 0 0 0 0:=⟨[],[],by unfold eO;rw[hn];simp,rfl,rfl⟩;have he:=hA.eat;have a:=hA.kids;unfold rQ kH at a;simp only[if_neg (show¬t.op=4 by omega)]at a;generalize eO t=E at hA he a;have j:nmE E 0=(bF t.kids false [],0):=by unfold nmE;rw[he];dsimp only;rw[if_pos i]
 have hu:mR E 0=false:=LG he (by dsimp only;omega) (fun h=>absurd h.1 (by dsimp only;omega));have b:jC t=false:=by unfold jC;rw[decide_eq_false (by omega)];rfl
 have key:bI E kO 0=⟨[⟨-1,0,0,t.at',bF t.kids false []⟩],[-1],[0],[]⟩:=by unfold bI;rw[he];dsimp only;rw[hu,j,b,if_neg (show¬t.op=4 by omega),if_neg (show¬((0:Int)<0)by decide)];rfl
 have h1:Rel 1 0 (mL t) (bI E kO 0):=by rw[key];exact⟨rfl,rfl,rfl,rfl,rfl⟩
 have hin:∀jj,inG E (bI E kO 0).ins (bI E kO 0).ops (0:Nat) jj=0:=fun jj=>by
  rw[key];unfold inG;dsimp only;rw[if_pos (by omega),if_neg (by
   rintro(h|h)
   ·simp at h
   ·have h2:=h.1;have e0:aH E ((0:Nat):Int).toNat=aH E 0:=rfl;rw[e0,he]at h2;dsimp only at h2;omega)]
  rfl
 obtain⟨g1,-⟩:=NC (E:=E) (n:=n) (fu:=f) (fun s k _=>nbS f f k ⟨0,0,false⟩ s) 0 0 (fun _=>0) (fun k hk hq f' l=>OW n (by omega) k hk hq f' l) t.kids 0 1 0 (mL t) _ (fun k hk=>⟨eN (by omega) hk,UB (iL g) k hk⟩) a h1 (by omega) (fun jj _=>hin jj) (fun k jj s hk _=>⟨f,⟨0,0,false⟩,s,by have:=eN (n:=n) (by omega) hk;omega,Eqv.refl _,Eqv.refl _,rfl,rfl⟩) (fun jj _ h=>by rw[he]at h;have:=h.1;dsimp only at this;omega) (fun k _ _=>by rw[he];dsimp only;omega);rw[lJ (nbS f f)]at g1;have e:foldI (bI E) 0 t.size kO=foldI (bI E) 1 (szs t.kids) (bI E kO 0):=by rw[c,kR,foldI,foldI]
 rw[e];exact⟨g1.L,g1.us,by rw[g1.li];omega,by rw[g1.lo];omega⟩
noncomputable def dP (p:Prop):Bool:= @decide p (Classical.propDecidable p)
attribute [local irreducible] dP iN rD gP findF lP qY CK G GC GQ GA eV Calls IntKind.wrap Int.decLt Int.decLe
end
section
open Go.RowKit Go.Vcg
attribute [local irreducible] dP iN rD gP findF lP qY CK G GC GQ GA eV Calls IntKind.wrap Int.decLt Int.decLe
end
section
open Go.RowKit Go.Vcg
def xD(us:List (Int×ByteArray×Int))(l:List Sc):List Sc:=us.foldl (fun l u=>match iD l u.1 u.2.1 with|some ab=>if oB l ab.1≠u.2.2 then CW l ab.1 ab.2 else l|none=>l) l
theorem KJ:∀(us:List Ux) (l0 l:List Sc),mJ l0 l→(∀u∈us,OZ l0 u)→AA us l=xD (us.map HS) l
 |[],_,_,_,_=>rfl
 | u ::r,l0,l,hs,hu=>by
   have hk:=hu u (aE ..);have hr:∀x∈r,OZ l0 x:=fun x a=>hu x (bP a);have hf:=xE hs u.u.scope u.u.name;unfold AA xD;rw[bX,aL,bX];cases hb:u.found with
   | false=>
     have h1:=(hk.no hb).1;rw[←hf]at h1;unfold HS;dsimp only;rw[h1,if_neg (by simp)];exact KJ r l0 l hs hr
   | true=>
     have h1:=(hk.yes hb).1;rw[←hf]at h1;unfold HS;dsimp only;rw[h1];dsimp only;by_cases hn:u.fn=oB l u.ts
     ·rw[if_neg (fun h=>h.2 hn),if_neg (fun h=>h hn.symm)];exact KJ r l0 l hs hr
     ·rw[if_pos ⟨rfl,hn⟩,if_pos (fun h=>hn h.symm)];exact KJ r l0 _ (hs.trans (HD l u.ts u.tb)) hr
def wL(t:T):List Sc:=qY [] (xD (foldI (bI (eO t)) 0 t.size kO).us (foldI (bI (eO t)) 0 t.size kO).L)
theorem aK6{t:T}(b:t.op=1)(a:rtB t 1 false=true)(f:Nat)(hf:t.size≤f):wL t=qZ (gS f t):=by
 obtain⟨h1,h2,-⟩:=run_eq b a f hf;unfold wL qZ;rw[h1,h2,KJ _ _ _ (mJ.refl _) (aA0 f t).uses]
structure Vm (t:T):Prop where
 nam:t.op=34→t.s≠⟨#[]⟩
 at' :0≤t.at'
 vn:t.op=2→t.n=0∨t.n=1∨t.n=2
 fd:t.op=4→jG t 1=true→t.s≠⟨#[]⟩
theorem aL7:Vm T.zero:=⟨fun h=>absurd h (by decide),by decide,fun h=>absurd h (by decide),fun h=>absurd h (by decide)⟩
theorem aHk:dJ Vm T.zero:=.mk aL7 fun k hk=>by cases hk
def aU3(E:List Fl):Prop:=∀e∈E,dJ Vm e.t
theorem aU3.at{E:List Fl}(h:aU3 E)(i:Nat):dJ Vm (aH E i).t:=by
 unfold aH;cases he:E[i]? with
 |none=>exact aHk
 |some e=>exact h e (aB he)
theorem NR{α:Type}{l:List α}{a b:α}{k:Nat}(h:(l++[a])[k]? =some b):l[k]? =some b∨k=l.length∧b=a:=by
 by_cases hk:k<l.length
 ·rw[aV hk]at h;exact .inl h
 ·rw[aP (by omega)]at h;by_cases h0:k=l.length
  ·subst h0;rw[cK]at h;exact .inr ⟨rfl,by injection h with h;exact h.symm⟩
  ·have:([a]:List α)[k-l.length]? =none:=dQ (by simp;omega);rw[this]at h;cases h
theorem NW{p:T→Prop}{f:T→Int→Nat→Nat→Nat→Nat→List Fl}:∀(ks:List T) (pa:Int) (j fn i c:Nat),(∀k∈ks,∀pa j fn i c,∀e∈f k pa j fn i c,p e.t)→∀e∈fE f ks pa j fn i c,p e.t
 |[],_,_,_,_,_,_,e,he=>by cases he
 | k::r,pa,j,fn,i,c,h,e,he=>by
   rw[fE]at he;rcases List.mem_append.1 he with he|he
   ·exact h k (aE ..) _ _ _ _ _ e he
   ·exact NW r _ _ _ _ _ (fun k hk=>h k (bP hk)) e he
theorem RT{p:T→Prop}(a:∀t k,p t→k∈t.kids→p k):∀(n:Nat) (t:T) (up:Int) (kid fn i c:Nat),p t→∀e∈gE n t up kid fn i c,p e.t
 |0,_,_,_,_,_,_,_,e,he=>by cases he
 | n+1,t,up,kid,fn,i,c,h,e,he=>by
   rw[gE]at he;rcases aR.1 he with rfl|he
   ·exact h
   ·exact NW t.kids _ _ _ _ _ (fun k hk pa j fn i c e he=>RT a n k pa j fn i c (a t k h hk) e he) e he
def SQ(l l' :List Sc):Prop:=l.length=l'.length∧∀(i:Nat) (c c' :Sc),l[i]? =some c→l'[i]? =some c' →c'.up=c.up∧c'.fn=c.fn∧c'.kind=c.kind∧c'.at' =c.at' ∧c'.names.map nk=c.names.map nk
theorem SQ.refl(l:List Sc):SQ l l:=⟨rfl,fun i c c' h a=>by rw[h]at a;cases a;exact⟨rfl,rfl,rfl,rfl,rfl⟩⟩
theorem SQ.trans{a b c:List Sc}(h:SQ a b)(g:SQ b c):SQ a c:=⟨h.1.trans g.1,fun i x z f j=>by
 obtain⟨y,e⟩:∃y,b[i]? =some y:=⟨_,aA (by have:=(List.getElem?_eq_some_iff.1 f).1;rw[←h.1];exact this)⟩;obtain⟨h1,h2,h3,h4,h5⟩:=h.2 i x y f e;obtain⟨g1,g2,g3,g4,g5⟩:=g.2 i y z e j;exact⟨g1.trans h1,g2.trans h2,g3.trans h3,g4.trans h4,g5.trans h5⟩⟩
end
end Go.Proofs.YtlllalmkkaolfaaGreatDoor
namespace Go.Vcg
open Go.RowKit
section
variable{P:Program}{μ:Mem}{l:bS}{L:List Bk}
variable{ty:TypeId}{pos:String}{af:Array Edge}{gd:Option (Nat×Bool)}{ds:Option Nat}
theorem EV{x:Operand}{v:Value}{t:TypeId}{g n cap o1 o2 o3:Nat}{e s:TypeId}{xs:List Value}(i:Nat)(a:pN P t=some false)
 (hi:iI L i=some (.inr ⟨.slice (some ⟨g,0,none⟩) n cap,e,s,n,xs⟩))(b:ev l x=some (.pointer (some (((Addr.add ⟨g,0,none⟩ o1).add o2).add o3))))(hv:xs[o1+ (o2+o3)]? =some v):Val P μ l L ⟨ds,.load t x,ty,pos,af,gd⟩ v:=
 qK i a hi (b.trans (by rw[oD,oD])) hv
end
end Go.Vcg
namespace Go.Proofs.YtlllalmkkaolfaaGreatDoor
section
open Go.RowKit Go.Vcg
def pM(p:Fl×Value):List Value:=cO p.1.t p.2++[.int .i64 p.1.up,.int .i64 (p.1.kid:Int),.int .i64 (p.1.fn:Int),.int .i64 (p.1.num:Int),.int .i64 (p.1.last:Int)]
theorem CB(p:Fl×Value):(pM p).length=11:=rfl
theorem RR(xs:List (Fl×Value)):(xs.flatMap pM).length=xs.length*11:=by
 induction xs with
 |nil=>rfl
 |cons x r ih=>rw[bU,aI,ih,CB,bH];omega
theorem BK{es:List (Fl×Value)}{i k:Nat}{e:Fl×Value}{v:Value}(he:es[i]? =some e)(hk:k<11)(hv:(pM e)[k]? =some v):(es.flatMap pM)[i*11+k]? =some v:=by rw[lQ CB es i k e he hk,hv]
theorem aIl{es:List (Fl×Value)}{i:Nat}{e:Fl×Value}(he:es[i]? =some e)(j:Nat)(v:Value)(hv:(pM e)[j]? =some v):(es.flatMap pM)[i*11+j]? =some v:=BK he (List.getElem?_eq_some_iff.1 hv).1 hv
def KP(μ:Mem)(es:List (Fl×Value)):Prop:=∀e∈es,KR μ e.1.t.kids e.2
theorem KP.mono{μ μ' :Mem}{es:List (Fl×Value)}(h:KP μ es)(hle:MLe μ μ'):KP μ' es:=fun e he=>(h e he).mono hle
theorem KP.app{μ:Mem}{es fs:List (Fl×Value)}(h:KP μ es)(a:KP μ fs):KP μ (es++fs):=fun e he=>(List.mem_append.1 he).elim (h e) (a e)
theorem KP.set{μ:Mem}{es:List (Fl×Value)}{i:Nat}{e' :Fl×Value}(h:KP μ es)(hk:KR μ e'.1.t.kids e'.2):KP μ (es.set i e'):=fun x a=>by
 rcases List.mem_or_eq_of_mem_set a with a|rfl
 ·exact h x a
 ·exact hk
def zG(i:Value×List (Fl×Value)):List Bk:=[.inr ⟨i.1,77,11,i.2.length,i.2.flatMap pM⟩]
section
variable{P:Program}{X:Ctx}{ops:Array Oper}{Q:Exit→Act→World→Prop}{rest:List Oper}{μ:Mem}{l:bS}{L:List Bk}
variable{ty:TypeId}{pos:String}{af:Array Edge}{gd:Option (Nat×Bool)}{ds:Option Nat}
theorem PW{x:Operand}{t:TypeId}{j g cap m e0:Nat}{es:List (Fl×Value)}(i:Nat){e:Fl×Value}(he:es[j]? =some e)(b:pN P t=some true)(a:jN P t=some 11)
 (hi:iI L i=some (.inr ⟨.slice (some ⟨g,0,none⟩) m cap,e0,11,m,es.flatMap pM⟩))(c:ev l x=some (.pointer (some (Addr.add ⟨g,0,none⟩ (j*11))))):
 Val P μ l L ⟨ds,.load t x,ty,pos,af,gd⟩ (.agg (pM e).toArray):=
 tA (vs:=pM e) i b a hi c rfl (aIl he)
theorem UL{x q:Operand}{t:TypeId}{j g cap m e0:Nat}{es:List (Fl×Value)}{y:Int}(i k:Nat){e e' :Fl×Value}(he:es[j]? =some e)(hk:k<11)(b:pM e' =(pM e).take k++[.int .i64 y]++(pM e).drop (k+1))(hw:iF ops l ⟨none,.store t q x,ty,pos,af,gd⟩=some true)(a:jN P t=some 1)
 (hi:iI L i=some (.inr ⟨.slice (some ⟨g,0,none⟩) m cap,e0,11,m,es.flatMap pM⟩))(hq:ev l q=some (.pointer (some ((Addr.add ⟨g,0,none⟩ (j*11)).add k))))(c:ev l x=some (.int .i64 y))
 (h:G P X ops Q rest μ l (fT L i (.inr ⟨.slice (some ⟨g,0,none⟩) m cap,e0,11,m,(es.set j e').flatMap pM⟩))):G P X ops Q (⟨none,.store t q x,ty,pos,af,gd⟩::rest) μ l L:=by
 refine lU i hw a hi hq c rfl rfl ?_ ?_
 ·rw[RR];have:=(List.getElem?_eq_some_iff.1 he).1;omega
 ·rw[show(Value.int .i64 y).cells.toList=[.int .i64 y]from rfl,oZ CB (vs:=[.int .i64 y]) (k:=k) (n:=1) (by omega) es j e he b];exact h
end
def zf(e:Fl):Fl:={ e with fn:=0,num:=0 }
theorem xF{f:T→Int→Nat→Nat→Nat→Nat→List Fl}(hf:∀t up kid fn i c fn' c',(f t up kid fn i c).map zf=(f t up kid fn' i c').map zf):∀(ks:List T) (pa:Int) (j fn i c fn' c' :Nat),(fE f ks pa j fn i c).map zf=(fE f ks pa j fn' i c').map zf
 |[],_,_,_,_,_,_,_=>rfl
 |k::r,pa,j,fn,i,c,fn',c' =>by rw[fE,fE,bJ,bJ,hf k pa j fn i c fn' c',xF hf r (pa) (j+1) fn (i+k.size) _ fn' _]
theorem GD:∀(n:Nat) (t:T) (up:Int) (kid fn i c fn' c' :Nat),(gE n t up kid fn i c).map zf=(gE n t up kid fn' i c').map zf
 |0,_,_,_,_,_,_,_,_=>rfl
 | n+1,t,up,kid,fn,i,c,fn',c' =>by rw[gE,gE,aL,aL,xF (GD n) t.kids i 0 (rQ t fn c) (i+1) (kH t c) (rQ t fn' c') (kH t c')];rfl
def UA(n:Nat)(t:T)(up:Int)(kid i:Nat):List Fl:=(gE n t up kid 0 i 0).map zf
def zX(n:Nat)(ks:List T)(pa:Int)(j i:Nat):List Fl:=(fE (gE n) ks pa j 0 i 0).map zf
theorem aF9(n:Nat)(t:T)(up:Int)(kid i:Nat):UA (n+1) t up kid i=⟨t,up,kid,0,0,i+t.size-1⟩::zX n t.kids i 0 (i+1):=by
 unfold UA zX;rw[gE,aL,xF (GD n) t.kids i 0 (rQ t 0 0) (i+1) (kH t 0) 0 0];rfl
theorem MZ(n:Nat)(k:T)(pa:Int):∀(ks:List T) (j i:Nat),zX n (ks++[k]) pa j i=zX n ks pa j i++UA n k pa (j+ks.length) (i+szs ks)
 | [],j,i=>by unfold zX UA;simp[fE,szs]
 | x::r,j,i=>by have ih:=MZ n k pa r (j+1) (i+x.size);unfold zX at ih⊢;rw[aU,fE,fE,bJ,bJ,xF (GD n) (r++[k]) pa (j+1) 0 (i+x.size) _ 0 0,ih,xF (GD n) r pa (j+1) 0 (i+x.size) (0+jZ (gE n x pa j 0 i 0)) 0 0,bA,bH,bK,show j+1+r.length=j+ (r.length+1)by omega,show i+x.size+szs r=i+ (x.size+szs r)by omega]
theorem aF8(n:Nat)(ks:List T)(pa:Int)(j i:Nat)(h:∀k∈ks,k.size≤n):(zX n ks pa j i).length=szs ks:=by
 unfold zX;rw[aO,uX ks _ _ _ _ _ fun k hk _ _ _ _ _=>pH n k _ _ _ _ _ (h k hk)]
theorem LJ{ks:List T}{j:Nat}{k:T}(h:ks[j]? =some k):szs (ks.take (j+1))=szs (ks.take j)+k.size:=by
 rw[cG,h];simp[szs]
def aV7(n:Nat)(t:T)(up:Int)(kid:Nat)(es:List (Fl×Value))(μ:Mem)(v:Value)(i:Value×List (Fl×Value)):Prop:=v=i.1∧i.2.map (·.1)=es.map (·.1)++UA n t up kid es.length∧KP μ i.2
attribute [local irreducible] UA zX gE G GC GQ GA eV GI GCI Calls IntKind.wrap Int.decLt Int.decLe
theorem aJi:∀(n:Nat),n≤100001→∀(t:T) (u:Value) (up:Int) (kid:Nat) (v0:Value) (es:List (Fl×Value)) (w:World) (μ:Mem),MOk μ w→Go.Vcg.Own μ (zG (v0,es)) w→t.size≤n→KR μ t.kids u→KP μ es→es.length+t.size≤200002→
 Calls Tryz.prog 50 #[v0,.agg (cO t u).toArray,.int .i64 up,.int .i64 (kid:Int)] w fun e w' =>∃(v:Value) (μ' :Mem) (i:Value×List (Fl×Value)),e=.returned v∧mW (lH (zG (v0,es))) w w' μ (zG i) μ' ∧aV7 n t up kid es μ' v i:=by
 intro n;induction n with
 |zero=>intro _ t u up kid v0 es w μ _ _ hn;exact absurd hn (by rw[T.size_eq];omega)
 | succ n ih=>
   intro ba t u up kid v0 es w μ hμ hO hn hk au bc;have a7:=aS t;have an:=dW hO.diff;have hlen:=iG t.kids;obtain⟨A,c,rfl,bb,aj⟩:=hk.form;refine cI Tryz.func50 rfl Tryz.ntmps50 (by simp) hμ hO ?_;unfold zG;dsimp only;refine gT 0 rfl ?_;rintro A0 c0 rfl a6;try repeat' (first|refine KZ ?_|(((with_reducible apply qA);(iterate 3 exact rfl);(repeat first|with_reducible exact fO|with_reducible apply gD);(iterate 6 exact rfl);(((with_reducible apply kB);exact rfl;(repeat with_reducible exact fW);exact rfl));exact rfl;exact gI (by(repeat first|with_reducible exact fZ|((with_reducible apply eW);exact rfl)));omega;omega;intro v))|refine NB fun b=>?_)
   rename_i bp;refine cD (ι:=Value×List (Fl×Value)×Nat×Mem) (fun j=>j.2.2.1≤t.kids.length∧MLe μ j.2.2.2∧KP j.2.2.2 j.2.1∧j.2.1.map (·.1)=es.map (·.1)++⟨t,up,kid,0,0,0⟩::zX n (t.kids.take j.2.2.1) es.length 0 (es.length+1)) (fun j=>t.kids.length-j.2.2.1) (fun j=>j.2.2.2)
    (fun j=>[(0,j.1),(5,.pointer (some ⟨bp,0,none⟩)),(9,.int .i64 es.length),(10,.int .i64 j.2.2.1)]) (fun j=>zG (j.1,j.2.1)++[.inl ⟨bp,24,6,idx 0 (cO t (.slice A t.kids.length c))⟩])
    (v,es++[(⟨t,up,kid,0,0,0⟩,.slice A t.kids.length c)],0,μ) ⟨aN _,MLe.refl _,au.app fun e he=>by rw[aJ.1 he];exact hk,by simp[zX,fE]⟩ (fun a w hs=>(hs.aPw (n' :=(es++[((⟨t,up,kid,0,0,0⟩:Fl),Value.slice A t.kids.length c)]).length) (xs' :=(es++[((⟨t,up,kid,0,0,0⟩:Fl),Value.slice A t.kids.length c)]).flatMap pM) (i:=2) rfl (by simp) (by rw[cZ];rfl)).sel PU PS) ?_
   rintro⟨v1,es1,i,μ1⟩ ⟨ak,l,o,f⟩;dsimp only at ak l o f⊢;unfold zG;dsimp only[aU,aY];have ah:es1.length=es.length+1+szs (t.kids.take i):=by have h:=congrArg List.length f;rw[aO,aI,aO,bH,aF8 _ _ _ _ _ (fun k hk=>eN hn (bE hk))]at h;omega
   have a1:=HA t.kids i;refine gT 0 rfl ?_;rintro A1 c1 rfl ab;obtain⟨g,rfl⟩:∃g,A1=some ⟨g,0,none⟩:=by
    rcases ab.form with⟨_,h,_⟩|h
    ·omega
    ·exact h
   by_cases hlt:i<t.kids.length
   ·have r:t.kids[i]? =some t.kids[i]:=aA hlt;have ar:=T.fY r;obtain⟨ad,x,rfl,ae,a8,ai⟩:=aj i _ r;have hm:=ae.mono l;have ap:=LJ r;have aq:=HA t.kids (i+1);have aa:t.kids.take (i+1)=t.kids.take i++[t.kids[i]]:=by rw[iQ hlt]
    generalize t.kids[i]=k at r ar ae hm ai ap aa;have z:=fun(w2:World) (ao:MOk μ1 w2) (az:Go.Vcg.Own μ1 (zG (.slice (some ⟨g,0,none⟩) es1.length c1,es1)) w2)=>ih (by omega) k x es.length i (.slice (some ⟨g,0,none⟩) es1.length c1) es1 w2 μ1 ao az (by omega) (ai.mono l) o (by omega);try repeat' (first|refine KO ?_|((with_reducible apply oU 1);(iterate 3 exact rfl);exact EN;exact rfl;(exact z);(rintro v2 μ2 ⟨v2',es2⟩ af ⟨rfl,p,q⟩);(unfold zG);(dsimp only[aU,aY]))|(refine KV (b:=by first|exact U1 i|exact U4 hm) (c:=?_))|refine KZ ?_)
    exact cY (v2,es2,i+1,μ2) ⟨by dsimp only;omega,l.trans af,q,by
     dsimp only at p⊢;rw[p,f,aa,MZ,ah,cM,jA ak,bG];simp⟩ (by dsimp only;omega) rfl PU PS
   ·have hi:i=t.kids.length:=by omega
    subst hi;rw[lX]at f ah;have ay:∃e,es1[es.length]? =some e:=by
     have:es.length<es1.length:=by omega
     exact⟨_,aA this⟩
    obtain⟨e,he⟩:=ay;have al:e.1=⟨t,up,kid,0,0,0⟩:=by have h:=congrArg (fun x=>x[es.length]?) f;simp only[aX,he,fC]at h;rw[aP (by rw[aO];exact aC _),aO,cK]at h;exact eC h
    obtain⟨e1,ev1⟩:=e;dsimp only at al;subst al;have aw:=oZ CB (vs:=[.int .i64 ((es1.length:Int)-1)]) (k:=10) (n:=1) (by omega) (y:=((⟨t,up,kid,0,0,es1.length-1⟩:Fl),ev1)) es1 es.length _ he (by rw[show((es1.length:Int)-1)=((es1.length-1:Nat):Int)by omega];rfl);have q:=o.set (i:=es.length) (e' :=((⟨t,up,kid,0,0,es1.length-1⟩:Fl),ev1)) (show KR μ1 t.kids ev1 from o _ (aB he));have av:(es1.set es.length ((⟨t,up,kid,0,0,es1.length-1⟩:Fl),ev1)).map (·.1)=es.map (·.1)++UA (n+1) t up kid es.length:=by rw[jS,f,aF9,List.set_append_right _ _ (by rw[aO];exact aC _),aO,cK,jI,show es1.length-1=es.length+t.size-1 by omega]
    have ax:=RR es1;try repeat' (first|refine KO ?_|((with_reducible apply lU 0);(iterate 7 exact rfl);(rw[ax];omega))|(refine KV (b:=by exact U1 es.length) (c:=?_))|refine KZ ?_)
    refine gJ (n' :=(es1.set es.length ((⟨t,up,kid,0,0,es1.length-1⟩:Fl),ev1)).length) 0 rfl (by rw[fU]) aw ?_;exact KE (Ls:=zG) 1 (.slice (some ⟨g,0,none⟩) es1.length c1,es1.set es.length ((⟨t,up,kid,0,0,es1.length-1⟩:Fl),ev1)) an rfl (cX rfl) rfl rfl (fun μ' ag=>⟨rfl,av,q.mono ag⟩)
end
section
open Go.RowKit Go.Vcg
def Lk(E:List Fl)(x:Nat):Prop:=∃e,E[x]? =some e∧e.num=(if e.t.op=4 then jZ (E.take x)+1 else 0)∧(0≤e.up→e.up<x∧e.fn=if(aH E e.up.toNat).t.op=4 then(aH E e.up.toNat).num else(aH E e.up.toNat).fn)∧(e.up<0→e.fn=0)
theorem AtG.take{E:List Fl}{n:Nat}{t:T}{up:Int}{kid fn i c:Nat}(h:AtG E n t up kid fn i c):jZ (E.take i)=c:=by
 obtain⟨pre,post,rfl,rfl,rfl⟩:=h;rw[bA,List.take_left]
theorem aD2{E:List Fl}{n:Nat}(ih:∀(t:T) (up:Int) (kid fn i c:Nat),t.size≤n→AtG E n t up kid fn i c→(0≤up→up<i∧fn=if(aH E up.toNat).t.op=4 then(aH E up.toNat).num else(aH E up.toNat).fn)→(up<0→fn=0)→∀x,i≤x→x<i+t.size→Lk E x)(pa fn:Nat)(b:fn=if(aH E pa).t.op=4 then(aH E pa).num else(aH E pa).fn):∀(ks:List T) (j i c:Nat),(∀k∈ks,k.size≤n)→qF E n ks (pa:Int) j fn i c→pa<i→∀x,i≤x→x<i+szs ks→Lk E x
 | [],j,i,c,_,_,_,x,h1,h2=>by exfalso;rw[show szs []=0 from rfl]at h2;omega
 | k::r,j,i,c,hk,hA,f,x,h1,h2=>by
   have a:=hk k (aE ..);rw[bK]at h2;by_cases e:x<i+k.size
   ·exact ih k pa j fn i c a hA.hd (fun _=>⟨by omega,by rw[aG];exact b⟩) (fun h=>by omega) x h1 e
   ·exact aD2 ih pa fn b r (j+1) (i+k.size) _ (fun k h=>hk k (bP h)) (hA.tl a) (by omega) x (by omega) (by omega)
theorem aJd{E:List Fl}:∀(n:Nat) (t:T) (up:Int) (kid fn i c:Nat),t.size≤n→AtG E n t up kid fn i c→(0≤up→up<i∧fn=if(aH E up.toNat).t.op=4 then(aH E up.toNat).num else(aH E up.toNat).fn)→(up<0→fn=0)→∀x,i≤x→x<i+t.size→Lk E x
 |0,t,_,_,_,_,_,h,_,_,_,_,_,_=>by have:=aS t;omega
 | n+1,t,up,kid,fn,i,c,hs,hA,h1,h2,x,hx1,a=>by
   have he:=hA.eat;have e:=aS t;by_cases b:x=i
   ·subst b;refine⟨_,hA.head,?_,h1,h2⟩;dsimp only;rw[hA.take]
   ·refine aD2 (aJd n) i (rQ t fn c) ?_ t.kids 0 (i+1) _ (fun k hk=>eN hs hk) hA.kids (by omega) x (by omega) (by omega);rw[he];unfold rQ;dsimp only;split<;>rfl
theorem xG(t:T):(eO t).length=t.size:=pH _ _ _ _ _ _ _ (aC _)
theorem ZI(t:T)(x:Nat)(a:x<t.size):Lk (eO t) x:=aJd t.size t (-1) 0 0 0 0 (aC _) ⟨[],[],by unfold eO;simp,rfl,rfl⟩ (fun h=>absurd h (by omega)) (fun _=>rfl) x (aN _) (by omega)
structure FLs (μ:Mem) (E:List Fl) (v:Value) (es:List (Fl×Value)):Prop where
 sl:∃A c,v=.slice A es.length c∧Sl pM 11 μ A es.length es
 keys:es.map (·.1)=E
 kf:KP μ es
theorem FLs.mono{μ μ' :Mem}{E:List Fl}{v:Value}{es:List (Fl×Value)}(h:FLs μ E v es)(hle:MLe μ μ'):FLs μ' E v es:=by
 obtain⟨⟨A,c,h1,h2⟩,h3,h4⟩:=h;exact⟨⟨A,c,h1,h2.mono hle⟩,h3,h4.mono hle⟩
def aL2(E:List Fl)(i:Nat)(es:List (Fl×Value)):Prop:=es.length=E.length∧∀(j:Nat) (p:Fl×Value),es[j]? =some p→∀e,E[j]? =some e→p.1=if j<i then e else zf e
theorem aJw{E:List Fl}{i:Nat}{es:List (Fl×Value)}{e:Fl}{u:Value}(h:aL2 E i es)(he:E[i]? =some e):aL2 E (i+1) (es.set i (e,u)):=by
 refine⟨by rw[fU];exact h.1,fun j p a x b=>?_⟩;rw[jX]at a;by_cases hij:i=j
 ·subst hij;rw[if_pos rfl]at a;split at a
  ·cases a;rw[he]at b;cases b;rw[if_pos (by omega)]
  ·cases a
 ·rw[if_neg hij]at a;rw[h.2 j p a x b];by_cases hl:j<i
  ·rw[if_pos hl,if_pos (by omega)]
  ·rw[if_neg hl,if_neg (by omega)]
theorem aLn{E:List Fl}{i:Nat}{e:Fl}(h:E[i]? =some e):jZ (E.take (i+1))=jZ (E.take i)+if e.t.op=4 then 1 else 0:=by
 rw[cG,h,qB];unfold jZ;by_cases h4:e.t.op=4<;>simp[h4]
theorem aSp(E:List Fl)(i:Nat):jZ (E.take i)≤i:=by
 unfold jZ;exact dU List.countP_le_length (by rw[cM];omega)
attribute [local irreducible] gE eO jZ G GC GQ GA eV GI GCI Calls IntKind.wrap Int.decLt Int.decLe
theorem aF6(t:T)(u:Value)(w:World)(μ:Mem)(hμ:MOk μ w)(hs:t.size≤100000)(hk:KR μ t.kids u):
 Calls Tryz.prog 26 #[.agg (cO t u).toArray] w fun e w' =>∃v μ',e=.returned v∧vI w w' μ μ' ∧∃es,FLs μ' (eO t) v es:=by
 have ho:=hk.one;have ad:=xG t;have al:=ZI t;have hE:UA t.size t (-1) 0 0=(eO t).map zf:=by unfold UA eO;rfl
 have bf:=aS t;generalize eO t=E at ad al hE⊢;refine aF Tryz.func26 rfl Tryz.ntmps26 (by simp) hμ ?_;try repeat' (first|((with_reducible show GC _ _ (Code.seq (Code.region 1 _ _) _) _ _ _ _);(apply dX))|refine KZ ?_|refine NB fun b=>?_)
 refine gcs (oN 77 11 ?_);have ag:=fun(w2:World) (ax:MOk μ w2) (bd:Go.Vcg.Own μ (zG (.slice none 0 0,[])) w2)=>aJi t.size (by omega) t u (-1) 0 (.slice none 0 0) [] w2 μ ax bd (aC _) hk (fun e he=>by cases he) (by simp;omega);try repeat' (first|refine KZ ?_|((with_reducible apply oU 1);(iterate 3 exact rfl);exact EN;exact rfl;exact ag;rintro v1 μ1 ⟨v1',es1⟩ bg ⟨rfl,aa,aq⟩;unfold zG;dsimp only[aU,aY]))
 have ar:es1.map (·.1)=E.map zf:=by rw[←hE];exact aa
 have ap:es1.length=t.size:=by have:=congrArg List.length ar;rw[aO,aO,ad]at this;exact this
 have a8:aL2 E 0 es1:=⟨by rw[ap,ad],fun j p hj e he=>by
  rw[if_neg (by omega)];have h:=congrArg (fun x=>x[j]?) ar;simp only[aX,hj,he,fC]at h;exact eC h⟩
 obtain⟨bp,av⟩:∃x,x=b:=⟨_,rfl⟩;rw[←av];clear av;refine gcs (gT 0 rfl ?_);rintro A1 c1 rfl ak;obtain⟨g,rfl⟩:∃g,A1=some ⟨g,0,none⟩:=by
  rcases ak.form with⟨_,h,_⟩|h
  ·omega
  ·exact h
 refine cD (ι:=Nat×List (Fl×Value)) (fun j=>j.1≤es1.length∧KP μ1 j.2∧aL2 E j.1 j.2) (fun j=>es1.length-j.1) (fun _=>μ1) (fun j=>[(3,.slice (some ⟨g,0,none⟩) es1.length c1),(4,.int .i64 ((jZ (E.take j.1):Nat):Int)),(5,.int .i64 j.1)])
  (fun j=>[.inr ⟨.slice (some ⟨g,0,none⟩) es1.length c1,77,11,es1.length,j.2.flatMap pM⟩]) (0,es1) ⟨aN _,aq,a8⟩ (fun a w hs=>by
    have h0:jZ (E.take 0)=0:=by unfold jZ;rfl
    dsimp only;rw[h0];exact J5 hs) ?_
 rintro⟨i,es2⟩ ⟨a7,f,l⟩;dsimp only at a7 f l⊢;have ao:es2.length=es1.length:=by rw[l.1,ap,ad]
 have bj:=aSp E i;by_cases hlt:i<es1.length
 ·obtain⟨⟨e0,u0⟩,he⟩:∃e,es2[i]? =some e:=⟨_,aA (by omega)⟩;obtain⟨e,ah,q,hup,ai⟩:=al i (by omega);have h0:=l.2 i _ he e ah;rw[if_neg (by omega)]at h0;dsimp only at h0;subst h0;have ab:=aLn ah;have a1:=f _ (aB he);obtain⟨et,eup,ekid,efn,enum,elast⟩:=e;dsimp only[zf]at*;try repeat' (first|((with_reducible show GC _ _ (Code.seq (Code.seq (Code.region 6 _ _) _) _) _ _ _ _);(apply dX))|refine KZ ?_)
  refine gcs (iT (ι:=Unit) (fun _=>True) (fun _=>μ1) (fun _=>[(3,.slice (some ⟨g,0,none⟩) es1.length c1),(4,.int .i64 ((jZ (E.take (i+1)):Nat):Int)),(5,.int .i64 i)])
   (fun _=>[.inr ⟨.slice (some ⟨g,0,none⟩) es1.length c1,77,11,es1.length,(es2.set i ((⟨et,eup,ekid,0,enum,elast⟩:Fl),u0)).flatMap pM⟩]) ?_ ?_)
  ·by_cases h4:et.op=4
   ·rw[if_pos h4]at ab q;subst q;rw[ab];try repeat' (first|refine KO ?_|((with_reducible apply UL 0 9 (e' :=((⟨et,eup,ekid,0,jZ (E.take i)+1,elast⟩:Fl),u0)) he (by omega) rfl);(iterate 5 exact rfl);(dsimp only[fT]))|(refine KV (b:=by first|exact U1 i|((with_reducible apply EV 0);(iterate 3 exact rfl);exact(BK he (by omega) rfl))) (c:=?_))|refine KZ ?_)
    all_goals exact J1 () trivial
   ·rw[if_neg h4]at ab q;subst q;rw[ab,show es2.set i ((⟨et,eup,ekid,0,0,elast⟩:Fl),u0)=es2 from eP fun j=>by
     rw[jX];split
     ·rename_i hj;subst hj;rw[if_pos (by omega),he]
     ·rfl]
    try repeat' (first|refine KO ?_|(refine KV (b:=by first|exact U1 i|((with_reducible apply EV 0);(iterate 3 exact rfl);exact(BK he (by omega) rfl))) (c:=?_))|refine KZ ?_)
    all_goals exact J1 () trivial
  ·rintro⟨⟩-;have y:(es2.set i ((⟨et,eup,ekid,0,enum,elast⟩:Fl),u0))[i]? =some ((⟨et,eup,ekid,0,enum,elast⟩:Fl),u0):=jM (by omega);have z:∀fn',fn' =efn→KP μ1 (es2.set i ((⟨et,eup,ekid,fn',enum,elast⟩:Fl),u0))∧aL2 E (i+1) (es2.set i ((⟨et,eup,ekid,fn',enum,elast⟩:Fl),u0)):=fun fn' h=>by subst h;exact⟨f.set a1,aJw l ah⟩
   have aj:∀a b:Fl×Value,(es2.set i a).set i b=es2.set i b:=fun a b=>List.set_set ..;generalize r:es2.set i ((⟨et,eup,ekid,0,enum,elast⟩:Fl),u0)=es3 at y;have ae:∀b:Fl×Value,es3.set i b=es2.set i b:=fun b=>by rw[←r,aj]
   by_cases h0:0≤eup
   ·obtain⟨bh,o⟩:=hup h0;obtain⟨k,rfl⟩:∃k:Nat,eup=k:=⟨eup.toNat,by omega⟩;rw[aG]at o;have a6:k<i:=by omega
    obtain⟨⟨ek,uk⟩,af⟩:∃e,es2[k]? =some e:=⟨_,aA (by omega)⟩;obtain⟨ek',aw⟩:∃e,E[k]? =some e:=⟨_,aA (by omega)⟩;have h9:=l.2 k _ af ek' aw;rw[if_pos a6]at h9;dsimp only at h9;subst h9;have ba:aH E k=ek:=by unfold aH;rw[aw];rfl
    rw[ba]at o;have au:es3[k]? =some (ek,uk):=by rw[←r,jX,if_neg (by omega),af]
    have az:=(f _ (aB af)).one;have bi:es3.length=es1.length:=by rw[←r,fU,ao]
    obtain⟨kt,kup,kkid,kfn,knum,klast⟩:=ek;dsimp only at o az;have bc:(es2.set i ((⟨et,(k:Int),ekid,kfn,enum,elast⟩:Fl),u0))[i]? =some ((⟨et,(k:Int),ekid,kfn,enum,elast⟩:Fl),u0):=jM (by omega);by_cases h4:kt.op=4
    ·rw[if_pos h4]at o;try repeat' (first|refine KO ?_|((with_reducible apply UL 1 8 (e' :=((⟨et,(k:Int),ekid,kfn,enum,elast⟩:Fl),u0)) y (by omega) rfl);(iterate 5 exact rfl);(rw[ae]);(dsimp only[fT]))|((with_reducible apply UL 1 8 (e' :=((⟨et,(k:Int),ekid,knum,enum,elast⟩:Fl),u0)) bc (by omega) rfl);(iterate 5 exact rfl);(rw[aj]);(dsimp only[fT]))|(refine KV (b:=by first|exact U1 i|exact U1 k|((with_reducible apply eZ 0);(iterate 3 exact rfl);exact(BK y (by omega) rfl))|((with_reducible apply PW 0 au);(iterate 4 exact rfl))) (c:=?_))|refine KZ ?_|refine NB fun b=>?_)
     all_goals exact J2 (i+1,es2.set i ((⟨et,(k:Int),ekid,knum,enum,elast⟩:Fl),u0)) ⟨by dsimp only;omega,z knum o.symm⟩ (by dsimp only;omega)
    ·rw[if_neg h4]at o;try repeat' (first|refine KO ?_|((with_reducible apply UL 1 8 (e' :=((⟨et,(k:Int),ekid,kfn,enum,elast⟩:Fl),u0)) y (by omega) rfl);(iterate 5 exact rfl);(rw[ae]);(dsimp only[fT]))|(refine KV (b:=by first|exact U1 i|exact U1 k|((with_reducible apply eZ 0);(iterate 3 exact rfl);exact(BK y (by omega) rfl))|((with_reducible apply PW 0 au);(iterate 4 exact rfl))) (c:=?_))|refine KZ ?_|refine NB fun b=>?_)
     all_goals exact J2 (i+1,es2.set i ((⟨et,(k:Int),ekid,kfn,enum,elast⟩:Fl),u0)) ⟨by dsimp only;omega,z kfn o.symm⟩ (by dsimp only;omega)
   ·have bb:=ai (by omega);subst bb;try repeat' (first|refine KO ?_|(refine KV (b:=by first|exact U1 i|((with_reducible apply eZ 0);(iterate 3 exact rfl);exact(BK y (by omega) rfl))) (c:=?_))|refine KZ ?_)
    all_goals rw[←r]
    all_goals exact J2 (i+1,es2.set i ((⟨et,eup,ekid,0,enum,elast⟩:Fl),u0)) ⟨by dsimp only;omega,z 0 rfl⟩ (by dsimp only;omega)
 ·have hi:i=es1.length:=by omega
  subst hi;try repeat' (refine KZ ?_)
  refine sC rfl (cX rfl) (fun μ' an ay=>⟨es2,?_⟩);have h9:=ay _ (aE ..);rw[←ao]at h9⊢;obtain⟨A',c',h1,h2⟩:=tM (enc:=pM) h9 rfl (fun _ _=>rfl) rfl;refine⟨⟨A',c',h1,h2⟩,?_,f.mono an⟩;apply eP;intro j;rw[aX];by_cases hj:j<es2.length
  ·obtain⟨p,hp⟩:∃e,es2[j]? =some e:=⟨_,aA hj⟩;obtain⟨e,he⟩:∃e,E[j]? =some e:=⟨_,aA (by have:=l.1;omega)⟩;have:=l.2 j p hp e he;rw[if_pos (by omega)]at this;rw[hp,he,fC,this]
  ·rw[dQ (by omega),dQ (by have:=l.1;omega)];rfl
end
section
open Go.RowKit Go.Vcg
structure Vp (t:T):Prop where
 one:t.op=63∨t.op=64→1≤t.kids.length
 two:t.op=62→2≤t.kids.length
theorem aS9{t:T}{d:Nat}{s:Bool}(h:Rt t d s):Vp t:=by
 have a:=YB h;refine⟨fun ho=>?_,fun ho=>a.kc.two (by omega)⟩;by_cases c:t.op=63
 ·have:=a.kc.two (by omega);omega
 ·have b:t.op=64:=by omega
  cases h with
  | mk hd hn hk hr=>
    unfold bD exB iA at hk;simp[b]at hk;exact CA hk
def aC1(t:T):Prop:=∀(w:World) (μ:Mem) (kv:Value),MOk μ w→KR μ t.kids kv→t.size≤1000000→dJ Vp t→
 Calls Tryz.prog 74 #[.agg (cO t kv).toArray] w (sZ w 9 1 (bB t).length ((bB t).flatMap mZ))
theorem XQ(t:T)(ih:∀k,k∈t.kids→aC1 k):aC1 t:=by
 intro w μ kv hμ hk an hv;refine aF Tryz.func74 rfl Tryz.ntmps74 (by simp) hμ ?_;have ao:=kQ t;have ak:=aS t;have hmul:=iG t.kids;obtain⟨A,c,rfl,hcap,q⟩:=hk.form;by_cases o:t.op=34
 ·try repeat' (first|refine KZ ?_|refine NB fun b=>?_)
  rw[qR o];refine HT 1 1 rfl (bL rfl cH) (by omega) ?_;exact qI 0 rfl rfl rfl
 by_cases ap:t.op=5∨t.op=60∨t.op=61
 ·have hin:bB t=t.kids.flatMap bB:=by rw[qT o];unfold gA;rw[if_pos (by omega)]
  have hsub:∀i,((t.kids.take i).flatMap bB).length≤t.size:=fun i=>by have h1:=uW (l:=t.kids.take i) (fun k _=>kQ k);have h2:=vQ t.kids i;have h3:mX t.kids=szs t.kids:=rfl;omega
  try repeat' (first|refine KZ ?_|refine NB fun b=>?_|(refine KB ?_ ?_<;>intro hp))
  all_goals
   obtain⟨bn,ag⟩:∃y,y=b:=⟨_,rfl⟩;rw[←ag];clear ag;refine cD (ι:=Nat×Value) (fun i=>i.1≤t.kids.length) (fun i=>t.kids.length-i.1) (fun _=>μ) (fun i=>[(4,.int .i64 (i.1:Int)),(3,i.2),(1,.pointer (some ⟨bn,0,none⟩))]) (fun i=>[.inr ⟨i.2,9,1,((t.kids.take i.1).flatMap bB).length,((t.kids.take i.1).flatMap bB).flatMap mZ⟩,.inl ⟨bn,24,6,idx 0 (cO t (.slice A t.kids.length c))⟩]) (0,.slice none 0 0) (by simp) (fun a w hs=>(hs.xY 9 1).sel PU PS) ?_;rintro⟨i,v⟩ hi;dsimp only at hi⊢;by_cases hlt:i<t.kids.length
   ·have f:t.kids[i]? =some t.kids[i]:=aA hlt;generalize t.kids[i]=k at f;obtain⟨ad,u,rfl,hm,hone,x⟩:=q i k f;have p:=aB f;have aj:=T.fY f;have ai:=hsub (i+1);have ab:(t.kids.take (i+1)).flatMap bB=(t.kids.take i).flatMap bB++bB k:=by rw[cG,f];simp
    have al:((t.kids.take i).flatMap bB).length+ (bB k).length≤1000000:=by rw[ab,aI]at ai;omega
    have h1:=aI0 (bB k);have h2:=aJh (bB k);try repeat' (first|refine KO ?_|((with_reducible apply C3);exact rfl;exact EN;(exact fun w μc hk j=>ih k p w μc u hk (x.mono j.le) (by omega) (hv.kid p));intro v2;(with_reducible apply fI 0);exact rfl;rintro A2 c2 rfl ae)|(((with_reducible apply qA);(iterate 3 exact rfl);(repeat first|with_reducible exact fO|with_reducible apply gD);(iterate 6 exact rfl);(((with_reducible apply aDa 0);exact ae;exact rfl;exact rfl));(omega);(assumption);omega;omega;intro v))|(refine KV (b:=by first|exact U1 i|exact U4 hm) (c:=?_))|refine KZ ?_)
    rw[←aI,←cZ,←ab];exact J2 (i+1,v) (by dsimp only;omega) (by dsimp only;omega)
   ·obtain rfl:i=t.kids.length:=by omega
    rw[lX,←hin];try repeat' (refine KZ ?_)
    exact qI 0 rfl rfl rfl
 have kid:∀{i:Nat} {k:T},t.kids[i]? =some k→bB t=bB k→∃ad u,A=some ad∧gF μ (ad.add (i*6)) (cO k u)∧∀(w:World) (μc:Mem),MOk μc w→MLe μ μc→Calls Tryz.prog 74 #[.agg (cO k u).toArray] w (sZ w 9 1 (bB t).length ((bB t).flatMap mZ)):=fun{i k} f he=>by obtain⟨ad,u,e,hm,hone,x⟩:=q i k f;have p:=aB f;have aj:=T.fY f;refine⟨ad,u,e,hm,fun w μc hw hle=>?_⟩;rw[he];exact ih k p w μc u hw (x.mono hle) (by omega) (hv.kid p)
 by_cases ah:t.op=63∨t.op=64
 ·have hl:=hv.here.one ah;obtain⟨k,f⟩:∃k,t.kids[0]? =some k:=⟨_,aA (by omega)⟩;obtain⟨ad,u,rfl,hm,g⟩:=kid f (by
   rw[qT o];unfold gA;rw[if_neg (by omega),if_pos ah];cases h:t.kids with
   |nil=>rw[h]at f;cases f
   |cons a r=>rw[h]at f;cases f;simp)
  try repeat' (first|refine KO ?_|((with_reducible apply C3);exact rfl;exact EN;(exact fun w μc hk j=>g w μc hk j.le);intro v2)|(refine KV (b:=by first|exact U1 0|exact U4 hm) (c:=?_))|refine KZ ?_|refine NB fun b=>?_|(refine KB ?_ ?_<;>intro hp))
  all_goals exact qI 0 rfl rfl rfl
 by_cases aa:t.op=62
 ·have hl:=hv.here.two aa;obtain⟨k,f⟩:∃k,t.kids[1]? =some k:=⟨_,aA (by omega)⟩;obtain⟨ad,u,rfl,hm,g⟩:=kid f (by
   rw[qT o];unfold gA;rw[if_neg (by omega),if_neg (by omega),if_pos aa];cases h:t.kids with
   |nil=>rw[h]at f;cases f
   | cons a r=>
     cases hr:r with
     |nil=>rw[h,hr]at f;cases f
     |cons y z=>rw[h,hr]at f;cases f;simp)
  try repeat' (first|refine KO ?_|((with_reducible apply C3);exact rfl;exact EN;(exact fun w μc hk j=>g w μc hk j.le);intro v2)|(refine KV (b:=by first|exact U1 1|exact U4 hm) (c:=?_))|refine KZ ?_|refine NB fun b=>?_)
  all_goals exact qI 0 rfl rfl rfl
 ·have af:bB t=[]:=by rw[qT o];unfold gA;rw[if_neg (by omega),if_neg (by omega),if_neg aa];rfl
  rw[af];refine oN 9 1 ?_;try repeat' (first|refine KZ ?_|refine NB fun b=>?_)
  all_goals exact qI 1 rfl rfl rfl
theorem tD(t:T):aC1 t:=T.ind XQ t
open Go.MapKept
theorem MK{x:ByteArray}:∀{l:List Bd} {k j:Nat},gP x l k=some j→∃y,l[j-k]? =some y∧y.name=x∧k≤j∧∀i z,i<j-k→l[i]? =some z→z.name≠x
 |[],_,_,h=>by cases h
 | b::r,k,j,h=>by
   unfold gP at h;by_cases hb:b.name=x
   ·rw[if_pos hb]at h;cases h;rw[cK];exact⟨b,rfl,hb,aC _,fun i z hi=>absurd hi (by omega)⟩
   ·rw[if_neg hb]at h;obtain⟨y,h1,h2,h3,h4⟩:=MK h;refine⟨y,by rw[show j-k=(j- (k+1))+1 by omega,bW];exact h1,h2,by omega,fun i z hi a=>?_⟩;cases i with
    |zero=>cases a;exact hb
    |succ i=>exact h4 i z (by omega) a
theorem ML{x:ByteArray}:∀{l:List Bd} {k:Nat},gP x l k=none→∀(i:Nat) (z:Bd),l[i]? =some z→z.name≠x
 |[],_,_,i,z,a=>by simp at a
 | b::r,k,h,i,z,a=>by
   unfold gP at h;by_cases hb:b.name=x
   ·rw[if_pos hb]at h;cases h
   ·rw[if_neg hb]at h;cases i with
    |zero=>cases a;exact hb
    |succ i=>exact ML h i z a
structure Vw (t:T):Prop where
 ks:Ks t
 vp:Vp t
 fl:t.op=4→0≤t.n∧t.n≤255
theorem aS8{t:T}{d:Nat}{s:Bool}(h:Rt t d s):Vw t:=by
 refine⟨YB h,aS9 h,fun h4=>?_⟩;cases h with
 | mk hd hn hk hr=>
   obtain⟨-,hf,-⟩:=hn;unfold nV at hf;have hb:IB t=false:=by
    cases hb:IB t with
    |false=>rfl
    |true=>rw[hb,if_pos rfl]at hf;cases hf
   rw[hb,if_neg (by simp),if_pos h4]at hf;unfold AY at hf;by_cases h1:t.n<0∨255<t.n∨t.s≠⟨#[]⟩∧lI t.s=false
   ·rw[if_pos h1]at hf;cases hf
   ·omega
theorem aPc(t:T):∀(d:Nat) (s:Bool),Rt t d s→dJ Vw t:=T.aBy (p:=fun t=>∀(d:Nat) (s:Bool),Rt t d s→dJ Vw t) (fun t ih d s h=>by
 refine .mk (aS8 h) fun k hk=>?_;obtain⟨i,hi⟩:=List.mem_iff_getElem?.1 hk;cases h with
 |mk _ _ _ hr=>exact ih k hk _ _ (hr i k hi)) t
theorem dJ.imp'{p q:T→Prop}(a:∀t,p t→q t){t:T}(h:dJ p t):dJ q t:=by
 induction h with
 |mk h _ ih=>exact .mk (a _ h) ih
theorem aS0:((List.range 256).all fun k=>(decide (anI (k:Int) 1≠0)==decide ((k:Int).tmod 2=1))&&(decide (anI (k:Int) 128≠0)== !decide ((IntKind.i64.wrap ((k:Int).tdiv 128)).tmod 2=0)))=true:=by decide+kernel
theorem VG{n:Int}(h:0≤n∧n≤255):(anI n 1≠0↔n.tmod 2=1)∧(anI n 128≠0↔ ¬(IntKind.i64.wrap (n.tdiv 128)).tmod 2=0):=by
 obtain⟨k,rfl⟩:=lD h.1;have h2:=eJ.1 aS0 k (List.mem_range.2 (by omega));rw[aM]at h2;have h3:=eq_of_beq h2.1;have h4:=eq_of_beq h2.2;refine⟨by rw[←decide_eq_true_iff (p:=anI (k:Int) 1≠0),←decide_eq_true_iff (p:=(k:Int).tmod 2=1)];exact(by rw[show decide (anI (↑k) 1≠0)=decide ((k:Int).tmod 2=1)from h3]),?_⟩;rw[←decide_eq_true_iff (p:=anI (k:Int) 128≠0),show decide (anI (↑k) 128≠0)=_ from h4];simp
attribute [local irreducible] jY dT gP anI iB G GC GQ GA eV Calls IntKind.wrap Int.decLt Int.decLe
theorem wV(l:List Bd)(lv sv:Value)(xs:List ByteArray)(k:Int)(μ:Mem)(hS:SsV μ sv xs)(hl:l.length+xs.length≤10000000):
 RC 113 [lv,sv,.int .i64 k] lv l (dT k xs l) μ:=by
 intro w hμ hO;have u:=dW hO.diff;have af:∀x:Bd,(mI x).length=4:=fun _=>rfl;obtain⟨A,c,rfl,hS,hc⟩:=hS;refine cI Tryz.func113 rfl Tryz.ntmps113 (by simp) hμ hO ?_;refine gT 0 rfl ?_;rintro Al cl rfl ah;try repeat' (refine KZ ?_)
 refine cD (ι:=Nat×Value) (fun q=>q.1≤xs.length) (fun q=>xs.length-q.1) (fun _=>μ) (fun q=>[(7,.int .i64 (q.1:Int)),(0,q.2),(1,.slice A xs.length c),(2,.int .i64 k)]) (fun q=>[mF q.2 (dT k (xs.take q.1) l)]) (0,.slice Al l.length cl) (aN _) (fun a w hs=>by
  dsimp only;rw[jW,CH];exact hs.sel PU (fH _)) ?_
 rintro⟨j,v⟩ hj;dsimp only at hj⊢;by_cases hlt:j<xs.length
 ·obtain⟨ad,y,rfl,hy,hm⟩:=hS.get hlt;have o:=yN (k:=k) (l:=l) hy;have aa:=oI k (xs.take j) l;rw[cM]at aa;generalize dT k (xs.take j) l=acc at o aa⊢;have ae:=RU acc;refine gT 0 rfl ?_;rintro A1 c1 rfl t;have g:=fun(w:World) (μc:Mem) (hw:MOk μc w) (h:Bk.sh (mF (.slice A1 acc.length c1) acc) μc)=>MJ w μc hw y acc (.slice A1 acc.length c1) (UW (f:=(.slice A1 acc.length c1,acc)) h (by dsimp only;omega));cases hp:gP y acc 0 with
  | none=>
    rw[hp]at g;dsimp only at g;have hne:=IE (k:=k) (ML hp);try repeat' (first|refine KO ?_|refine K3 53 (fun w μc hw i=>g w μc hw (i.own _ (aE ..))) ?_|(((with_reducible apply qA);(iterate 3 exact rfl);(repeat first|with_reducible exact fO|with_reducible apply gD);(iterate 6 exact rfl);(((with_reducible apply kB);exact rfl;(repeat with_reducible exact fW);exact rfl));(exact rfl);((exact gI (by(repeat first|with_reducible exact fZ|((with_reducible apply eW);(exact rfl))))));omega;omega;intro v))|(refine KV (b:=by first|exact U1 j|exact U3 (hm.at 0 rfl)) (c:=?_))|refine KZ ?_|refine NB fun b=>?_)
    all_goals refine gO (L' :=[_]) (eB (.refl _) (.nil _)) ?_
    all_goals refine gJ (n' :=(dT k (xs.take (j+1)) l).length) (xs' :=(dT k (xs.take (j+1)) l).flatMap mI) 0 rfl (by rw[o,hne];simp) (by rw[o,hne];simp) ?_
    all_goals exact cY (j+1,_) (by dsimp only;omega) (by dsimp only;omega) rfl PU (fH _)
  | some p=>
    rw[hp]at g;dsimp only at g;obtain⟨z,hz,ab,-,r⟩:=MK hp;rw[dK]at hz r;have e:=SP (k:=k) hz r;rw[if_pos ab,←o]at e;have ag:=(List.getElem?_eq_some_iff.1 hz).1;rcases t.form with⟨-,h0,-⟩|⟨g4,rfl⟩
    ·exfalso;omega
    by_cases hk:k=3
    ·rw[if_pos hk]at e;try repeat' (first|refine KO ?_|refine K3 53 (fun w μc hw i=>g w μc hw (i.own _ (aE ..))) ?_|((with_reducible apply lU 0);(iterate 7 exact rfl);(rw[ae];omega);(dsimp only[fT]))|(refine KV (b:=by first|exact U1 j|exact U1 p|exact U3 (hm.at 0 rfl)) (c:=?_))|refine KZ ?_)
     all_goals refine gJ (n' :=(dT k (xs.take (j+1)) l).length) (xs' :=(dT k (xs.take (j+1)) l).flatMap mI) 0 rfl (by rw[e,fU]) (by rw[e,hk];exact oZ af (vs:=[.int .i64 3]) (k:=1) (n:=1) (by omega) acc p _ hz rfl) ?_
     all_goals exact cY (j+1,_) (by dsimp only;omega) (by dsimp only;omega) rfl PU (fH _)
    ·rw[if_neg hk]at e;try repeat' (first|refine KO ?_|refine K3 53 (fun w μc hw i=>g w μc hw (i.own _ (aE ..))) ?_|(refine KV (b:=by first|exact U1 j|exact U3 (hm.at 0 rfl)) (c:=?_))|refine KZ ?_)
     all_goals rw[←e]
     all_goals exact cY (j+1,_) (by dsimp only;omega) (by dsimp only;omega) rfl PU (fH _)
 ·obtain rfl:j=xs.length:=by omega
  rw[aK (aC _)];try repeat' (refine KZ ?_)
  all_goals exact oJ u rfl (cX rfl) rfl rfl
end
end Go.Proofs.YtlllalmkkaolfaaGreatDoor
