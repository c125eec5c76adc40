/- Rules for a statement whose order Go leaves open, over the symbolic state of YtknieidhopbngaaGreatVc. -/
import Derived.Test.YtknieidhopbngaaGreatQaa
set_option maxRecDepth 20000
namespace Go.Vcg
section
open Go.RowKit
def Sm(μ:Mem)(L:List Bk)(w:World):Prop:=MOk μ w∧∀x∈L,Bk.at x w
def GA(P:Program)(X:Ctx)(μr:Mem)(Lr:List Bk)(ops:Array Oper)(Q:Exit→Act→World→Prop)(fuel:Nat)(listed:Array Bool)(μ:Mem)(l:bG)(L:List Bk):Prop:=
 ∀a w,St X μ l L a w→Sm μr Lr w→wpAnyH P .any ops Q (Sm μr Lr) fuel listed a w
section
variable{P:Program}{X:Ctx}{ops:Array Oper}{Q:Exit→Act→World→Prop}{μ μr:Mem}{l:bG}{L Lr:List Bk}{a:Act}{w:World}{o:Oper}{d fuel i:Nat}{listed:Array Bool}
theorem St.draw(h:St X μ l L a w):St X μ l L a { w with drawn:=w.drawn+1 }:=
 ⟨h.size,h.defers,h.slots,⟨h.cW.os,h.cW.tape,h.cW.output,h.cW.size,h.cW.block⟩,h.mem,h.from0,h.fresh,fun x b=>Bk.cW (h.own x b) (fun _ _=>rfl),h.priv,h.new,h.diff⟩
theorem aW{id:Nat}(n:Nat)(Lr:List Bk)(hm:P.follows .mixedOrders=true)(hn:ops.size=n)(hL:Lr.Sublist L)(h:GA P X μ Lr ops Q n (Array.replicate n false) μ l L):GC P X (.region id ops true) Q μ l L:=
 fun a _ hs=>wp_region_held hm (by subst hn;exact h a _ hs.draw ⟨hs.draw.mem,fun x b=>hs.draw.own x (hL.subset b)⟩)
theorem vI{i:Nat}(h:sD ops.toList i=some o):ops[i]? =some o:=by rw[SM]at h;simpa using h
theorem SX(i:Nat){v:Value}(ho:sD ops.toList i=some o)(hd:o.dst=some d)(hn:Nat.blt d X.n=true)(hw:dW ops l o=some true)(hs:Region.noSelect ops=true)(hf:Region.free .any ops listed i=true)
 (hr:(Region.ready .any ops listed).contains i=true)(hQ:∀c a w,Q (.panic c) (Act.put a (some d) v) w→Q (.panic c) a w)(hv:Val P μr l Lr o v)
 (h:GA P X μr Lr ops Q fuel (listed.setIfInBounds i true) μ ((d,v)::l) L):GA P X μr Lr ops Q (fuel+1) listed μ l L:=fun a w b j=>by
 refine wpAnyH_take (vI ho) hs hf hr (by rw[hd];exact hQ) (.inl ⟨b.wanted hw,fun w' g=>hv a w' ⟨b.slots,g.1,g.2⟩⟩) j ?_;rw[hd];exact h _ _ (b.put hn _) j
theorem aCd(i:Nat)(ho:sD ops.toList i=some o)(hd:o.dst=some d)(hn:Nat.blt d X.n=true)(hw:dW ops l o=some false)(hs:Region.noSelect ops=true)(hf:Region.free .any ops listed i=true)
 (hr:(Region.ready .any ops listed).contains i=true)(hQ:∀c a w,Q (.panic c) (Act.put a (some d) undef) w→Q (.panic c) a w)
 (h:GA P X μr Lr ops Q fuel (listed.setIfInBounds i true) μ ((d,undef)::l) L):GA P X μr Lr ops Q (fuel+1) listed μ l L:=fun a w b g=>by
 refine wpAnyH_take (v:=undef) (vI ho) hs hf hr (by rw[hd];exact hQ) (.inr ⟨b.wanted hw,rfl⟩) g ?_;rw[hd];exact h _ _ (b.put hn _) g
theorem aCe(hr:Region.ready .any ops listed=[])(h:GQ X Q .normal μ l L):GA P X μr Lr ops Q fuel listed μ l L:=fun a w b _=>wpAnyH_done hr (h a w b) _
def dV(P:Program)(X:Ctx)(μr:Mem)(Lr:List Bk)(ops:Array Oper)(Q:Exit→Act→World→Prop)(fuel:Nat)(listed:Array Bool)(i:Nat)(μ:Mem)(l:bG)(L:List Bk):Prop:=
 ∀a w,St X μ l L a w→Sm μr Lr w→wpOp P ops Q i (fun a' w' =>Sm μr Lr w' ∧wpAnyH P .any ops Q (Sm μr Lr) fuel (listed.setIfInBounds i true) a' w') a w
theorem aCf(i:Nat)(hr:Region.ready .any ops listed=[i])(h:dV P X μr Lr ops Q fuel listed i μ l L):GA P X μr Lr ops Q (fuel+1) listed μ l L:=fun a w b d=>by
 refine wpAnyH_all hr (by simp) fun j c=>?_;simp only[bM]at c;subst c;exact h a w b d
theorem dS(i j:Nat)(hr:Region.ready .any ops listed=[i,j])(h:dV P X μr Lr ops Q fuel listed i μ l L)(d:dV P X μr Lr ops Q fuel listed j μ l L):GA P X μr Lr ops Q (fuel+1) listed μ l L:=fun a w b c=>by
 refine wpAnyH_all hr (by simp) fun k hk=>?_;simp only[aV,bX,or_false]at hk;rcases hk with rfl|rfl
 ·exact h a w b c
 ·exact d a w b c
theorem aHe{i:Nat}(ho:sD ops.toList i=some o)(hw:dW ops l o=some true)
 (h:∀a w,St X μ l L a w→Sm μr Lr w→o.wp P a w (fun a' w' =>Sm μr Lr w' ∧wpAnyH P .any ops Q (Sm μr Lr) fuel (listed.setIfInBounds i true) a' w') Q):dV P X μr Lr ops Q fuel listed i μ l L:=fun a w b c=>by
 unfold wpOp;simp only[vI ho,b.wanted hw,if_true];exact .inl (h a w b c)
theorem VS{i:Nat}(ho:sD ops.toList i=some o)(hd:o.dst=some d)(hn:Nat.blt d X.n=true)(hw:dW ops l o=some false)
 (h:GA P X μr Lr ops Q fuel (listed.setIfInBounds i true) μ ((d,undef)::l) L):dV P X μr Lr ops Q fuel listed i μ l L:=fun a w b c=>by
 unfold wpOp;simp only[vI ho,b.wanted hw,cB,if_false,hd];exact⟨c,h _ _ (b.put hn _) c⟩
theorem bS{i:Nat}{v:Value}(ho:sD ops.toList i=some o)(hd:o.dst=some d)(hn:Nat.blt d X.n=true)(hw:dW ops l o=some true)(hv:Val P μ l L o v)
 (h:GA P X μr Lr ops Q fuel (listed.setIfInBounds i true) μ ((d,v)::l) L):dV P X μr Lr ops Q fuel listed i μ l L:=
 aHe ho hw fun a w hs b=>by unfold Oper.wp;rw[hv a w hs.rd,Oper.upon_value,hd];exact⟨b,h _ _ (hs.put hn _) b⟩
theorem ZM{t:Nat}{b:Bool}(hl:lk l t=some (.bool b))(ht:b=true→GA P X μr Lr ops Q fuel listed μ ((t,.bool true)::l) L)(hf:b=false→GA P X μr Lr ops Q fuel listed μ ((t,.bool false)::l) L):GA P X μr Lr ops Q fuel listed μ l L:=by
 intro a w hs d;have c:=hs.slots t _ hl;have hn:Nat.blt t X.n=true:=by have:=(Array.getElem?_eq_some_iff.1 c).1;rw[hs.size]at this;simp[Nat.blt];omega
 have he:a.put (some t) (.bool b)=a:=by
  cases a;simp only[Act.put,Act.mk.injEq,and_true]at*;exact gM fun i=>by
   by_cases e:t=i
   ·subst e;rw[cL (Array.getElem?_eq_some_iff.1 c).1,c]
   ·rw[cR e]
 have hp:=hs.put hn (.bool b);rw[he]at hp;cases b
 ·exact hf rfl a w hp d
 ·exact ht rfl a w hp d
theorem ZN(i:Nat){t:Nat}{b:Bool}(_ho:sD ops.toList i=some o)(_hg:wW ops o=some t)(hl:lk l t=some (.bool b))(_hb:uL b)(ht:b=true→GA P X μr Lr ops Q fuel listed μ ((t,.bool true)::l) L)
 (hf:b=false→GA P X μr Lr ops Q fuel listed μ ((t,.bool false)::l) L):GA P X μr Lr ops Q fuel listed μ l L:=ZM hl ht hf
end
end
section
open Go.RowKit
section
variable{P:Program}{X:Ctx}{ops:Array Oper}{Q:Exit→Act→World→Prop}{rest:List Oper}{μ:Mem}{l:bG}{L:List Bk}{a:Act}{w:World}{o:Oper}
variable{d:Nat}{ty:TypeId}{pos:String}{af:Array Edge}{gd:Option (Nat×Bool)}
def aE6{α:Type}(x:Nat)(k:Nat→α):α:=match x with
 |0=>k 0|1=>k 1|2=>k 2|4=>k 4|8=>k 8|16=>k 16|24=>k 24|32=>k 32|40=>k 40|48=>k 48|56=>k 56|64=>k 64|72=>k 72|80=>k 80|88=>k 88|96=>k 96|104=>k 104|112=>k 112|120=>k 120|128=>k 128|n=>k n
theorem aBy{α:Type}(x:Nat)(k:Nat→α):aE6 x k=k x:=by
 unfold aE6;split<;>rfl
def FJ(P:Program)(t:TypeId):Option Nat:=match P.info? t with|some i=>aE6 i.bytes some|none=>none
def Src(μ:Mem)(l:bG)(L:List Bk)(x:Operand)(m:Nat)(news:List Value):Prop:=
 ∃A c,ev l x=some (.slice A m c)∧(A=none→m=0∧news=[])∧∀ad,A=some ad→∀a w,Rd μ l L a w→∀j u,news[j]? =some u→w.cell? (ad.add j)=some u
theorem St.JA(h:St X μ l L a w){v' :Value}{w' :World}{e:TypeId}{s n:Nat}{xs:List Value}(hr:w'.ownsRow 0 e s v' n xs)(hg:w.grownBy w' none)(hb:∀b,v'.ownBlock=some b→w.heap.size≤b):
 St X μ l (.inr ⟨v',e,s,n,xs⟩::L) a w' :=by
 have g:Below w.heap.size w w' :=⟨hg.os,hg.tape,hg.output,hg.size,fun b hb=>hg.block b hb (by simp)⟩;have h1:=h.mM g;have hp:∀b,w.heap.size≤b→μ b=none:=fun b hb=>by
  cases hm:μ b with
  |none=>rfl
  | some o=>
    have:=(Array.getElem?_eq_some_iff.1 (h.mem _ _ hm)).1;omega
 refine⟨h1.size,h1.defers,h1.slots,h1.cW,h1.mem,h1.from0,h1.fresh,fun x c=>?_,fun x c b d=>?_,fun x c b d=>?_,List.pairwise_cons.2 ⟨fun y k b j i=>?_,h1.diff⟩⟩
 ·rcases aV.1 c with rfl|c
  ·exact hr
  ·exact h1.own x c
 ·rcases aV.1 c with rfl|c
  ·exact hp b (hb b d)
  ·exact h1.priv x c b d
 ·rcases aV.1 c with rfl|c
  ·exact .inr (bO h.cW.size (hb b d))
  ·exact h1.new x c b d
 ·have:=hb b j;have:=Bk.lt (h.own y k) i;omega
theorem vB{t e:TypeId}{s bytes:Nat}{z:Value}(ht:P.underlying t=some (.slice e))(hs:gW P e=some s)(o:qR P e=some z)(l:z.cells.toList.length=s)(d:FJ P e=some bytes)(k:0<s)
 {v:Value}{n:Nat}{xs:List Value}(a:w.ownsRow 0 e s v n xs){A:Option Addr}{m c:Nat}{news:List Value}(hl:news.length=m*s)(q:A=none→m=0∧news=[])(hc:∀ad,A=some ad→∀j u,news[j]? =some u→w.cell? (ad.add j)=some u)
 (h1:∀u∈news,u.oneCell' =true)(b:(n+m)*bytes≤140737488355328)(hlen:n+m≤140737488355328):
 ∃v' w',(Builtin.append_ #[t,t] ty #[v,.slice A m c]).run P w=.ok v' w' ∧w'.ownsRow 0 e s v' (n+m) (xs++news)∧w.grownBy w' v.ownBlock∧(v'.ownBlock=v.ownBlock∨v'.ownBlock=some w.heap.size):=by
 unfold gW at hs;unfold qR at o;unfold FJ at d;cases hi:P.info? e with
 |none=>simp[hi]at hs
 | some i=>
   simp[hi,sW]at hs;simp[hi]at o;simp[hi,aBy]at d;rcases A with _|ad
   ·obtain⟨rfl,rfl⟩:=q rfl;have h:(Builtin.append_ #[t,t] ty #[v,.slice none 0 c]).run P w=.ok v w:=by
     rcases a.2 with⟨rfl,rfl⟩|⟨g,cap,cur,rfl,_,_,p,_⟩
     ·simp[Builtin.append_,run_underlying ht,sizeOf,typeInfo,hi,Builtin.lenOf,Builtin.firstCells]
     ·simp[Builtin.append_,run_underlying ht,sizeOf,typeInfo,hi,Builtin.lenOf,Builtin.firstCells,p,storeCells]
    exact⟨v,w,h,by simpa using a,World.grownBy.refl w _,.inl rfl⟩
   ·obtain⟨v',w',r1,r2,r3,_,r5⟩:=run_append_own_at (P:=P) w 0 t ty e i z s bytes ht hi o hs d (by simpa using l) k v n xs a ad m c news hl (hc ad rfl) h1 (by simp only[maxLen];omega) b (cU _);exact⟨v',w',r1,r2,r3,r5⟩
theorem uO{p q:Operand}{t:TypeId}{v x v' :Value}{w' :World}{ρ:Operand→Value}{ds:Option Nat}(hp:ρ p=v)(a:ρ q=x)(hr:(Builtin.append_ #[t,t] ty #[v,x]).run P w=.ok v' w'):
 (execOp ρ ⟨ds,.call { callee:=.builtin .append,args:= #[p,q],argTypes:= #[t,t] },ty,pos,af,gd⟩).run P w=.ok (.value v') w' :=by
 simp only[execOp,resolve,invoke,builtin,Sem.run_bind,Sem.run_pure,Result.andThen_ok,List.map_toArray,bE,cN,hp,a,hr]
theorem VW{p q:Operand}{t e:TypeId}{s bytes m:Nat}{z:Value}{news:List Value}(hn:Nat.blt d X.n=true)(hw:dW ops l ⟨some d,.call { callee:=.builtin .append,args:= #[p,q],argTypes:= #[t,t] },ty,pos,af,gd⟩=some true)
 (ht:P.underlying t=some (.slice e))(hs:gW P e=some s)(x:qR P e=some z)(o:z.cells.toList.length=s)(r:FJ P e=some bytes)(k:Nat.blt 0 s=true)(hp:ev l p=some (.slice none 0 0))
 (j:Src μ l L q m news)(hl:news.length=m*s)(h1:∀u∈news,u.oneCell' =true)(i:m*bytes≤140737488355328)(hlen:m≤140737488355328)
 (h:∀v,G P X ops Q rest μ ((d,v)::l) (.inr ⟨v,e,s,m,news⟩::L)):
 G P X ops Q (⟨some d,.call { callee:=.builtin .append,args:= #[p,q],argTypes:= #[t,t] },ty,pos,af,gd⟩::rest) μ l L:=
 BU hw fun a w g=>by
  obtain⟨A,c,y,h0,hc⟩:=j;obtain⟨v',w',r1,r2,r3,r4⟩:=vB (P:=P) (ty:=ty) (w:=w) (t:=t) ht hs x o r (by simpa using k) (v:=.slice none 0 0) (n:=0) (xs:=[]) ⟨by simp,.inl ⟨rfl,rfl⟩⟩ (c:=c) hl h0 (fun ad e=>hc ad e a w g.rd) h1 (by simpa using i) (by simpa using hlen);unfold Oper.wp;rw[uO (g.eval hp) (g.eval y) r1,Oper.upon_value];refine h v' _ _ (St.put (g.JA (by simpa using r2) r3 (fun b hb=>?_)) hn _);rcases r4 with r4|r4
  ·rw[r4]at hb;simp[Value.ownBlock]at hb
  ·rw[r4]at hb;cases hb;exact aP _
theorem MR{p q:Operand}{t:TypeId}{s bytes m:Nat}{z:Value}{news:List Value}{r:Rw}(i:Nat)(hn:Nat.blt d X.n=true)(hw:dW ops l ⟨some d,.call { callee:=.builtin .append,args:= #[p,q],argTypes:= #[t,t] },ty,pos,af,gd⟩=some true)
 (hi:jO L i=some (.inr r))(ht:P.underlying t=some (.slice r.e))(hs:gW P r.e=some s)(x:r.s=s)(hz:qR P r.e=some z)(ab:z.cells.toList.length=s)(ag:FJ P r.e=some bytes)(aa:Nat.blt 0 s=true)(hp:ev l p=some r.v)
 (o:Src μ l L q m news)(hl:news.length=m*s)(h1:∀u∈news,u.oneCell' =true)(k:(r.n+m)*bytes≤140737488355328)(hlen:r.n+m≤140737488355328)
 (h:∀v,G P X ops Q rest μ ((d,v)::l) (nQ L i (.inr ⟨v,r.e,r.s,r.n+m,r.xs++news⟩))):
 G P X ops Q (⟨some d,.call { callee:=.builtin .append,args:= #[p,q],argTypes:= #[t,t] },ty,pos,af,gd⟩::rest) μ l L:=
 BU hw fun a w g=>by
  obtain⟨A,c,hq,h0,hc⟩:=o;have j:w.ownsRow 0 r.e r.s r.v r.n r.xs:=g.own _ (fB hi);rw[x]at j;obtain⟨v',w',r1,r2,r3,r4⟩:=vB (P:=P) (ty:=ty) (w:=w) (t:=t) ht hs hz ab ag (by simpa using aa) j (c:=c) hl h0 (fun ad e=>hc ad e a w g.rd) h1 k hlen;unfold Oper.wp;rw[uO (g.eval hp) (g.eval hq) r1,Oper.upon_value];refine h v' _ _ (St.put (g.upd hi r3.os r3.tape r3.output r3.size (fun b hb ae=>r3.block b hb (fun e=>ae e.symm)) (y:=.inr ⟨v',r.e,r.s,r.n+m,r.xs++news⟩) (by rw[←x]at r2;exact r2) (fun b hb=>?_)) hn _);rcases r4 with r4|r4
  ·exact .inl (r4.symm.trans hb)
  ·have:v'.ownBlock=some b:=hb;rw[r4]at this;cases this;exact .inr (aP _)
theorem aA7{q:Operand}{y:Blk}{m c:Nat}{news:List Value}(i:Nat)(hi:jO L i=some (.inl y))(d:ev l q=some (.slice (some ⟨y.b,0,none⟩) m c))(hc:LC y.cs 0 y.sz news):Src μ l L q m news:=
 ⟨_,_,d,(fun h=>by cases h),fun ad e a w hr j u hu=>by
   cases e;rw[add_lit];exact hr.cell (fB hi) (hc.get j u hu)⟩
theorem tM{α:Type}{enc:α→List Value}{sz m c:Nat}{q:Operand}{A:Option Addr}{xs:List α}(o:ev l q=some (.slice A m c))(h:Sl enc sz μ A m xs)(he:∀x∈xs,(enc x).length=sz):Src μ l L q m (xs.flatMap enc):=by
 refine⟨A,c,o,fun e=>?_,fun ad e a w hr j u hu=>?_⟩
 ·have hm:m=0:=by
   rcases gK m with b|b
   ·exact b
   ·obtain⟨ad,e',_⟩:=h.2 b;rw[e]at e';cases e'
  exact⟨hm,by rw[dC (h.1.trans hm)];rfl⟩
 ·have key:∀(xs:List α) (k:Nat),(∀x∈xs,(enc x).length=sz)→(∀i x,xs[i]? =some x→iK μ (ad.add ((k+i)*sz)) (enc x))→∀j u,(xs.flatMap enc)[j]? =some u→oM μ (ad.add (k*sz+j)) u:=by
   intro xs;induction xs with
   |nil=>intro k _ _ j u hu;simp at hu
   | cons x xs ih=>
     intro k he hc j u hu;have g:=he x (by simp);simp only[dA]at hu;by_cases p:j<sz
     ·rw[bY (by omega)]at hu;exact(by simpa using hc 0 x rfl:iK μ (ad.add (k*sz)) (enc x)).at j hu
     ·rw[bQ (by omega),g]at hu;have:=ih (k+1) (fun y d=>he y (by simp[d])) (fun i y d=>by rw[show k+1+i=k+ (i+1)by omega];exact hc (i+1) y (by simpa using d)) (j-sz) u hu;rw[dK,mG,show k*sz+sz+ (j-sz)=k*sz+j by omega]at this;exact this
  have hm:0<m:=by
   rcases gK m with b|b
   ·have:xs=[]:=dC (h.1.trans b);subst this;simp at hu
   ·exact b
  obtain⟨ad',e',hc⟩:=h.2 hm;rw[e]at e';cases e';have:=key xs 0 he (fun i x g=>by simpa using hc i x g) j u hu;simp only[jU,dT]at this;exact hr.YR this
theorem UE{p:Operand}{t e:TypeId}{ds:Option Nat}{r:Rw}(i:Nat)(ht:P.underlying t=some (.slice e))(hi:jO L i=some (.inr r))(hp:ev l p=some r.v):
 Val P μ l L ⟨ds,.call { callee:=.builtin .len,args:= #[p],argTypes:= #[t] },ty,pos,af,gd⟩ (.int .i64 r.n):=fun a w hs=>by
 have e0:=hs.eval hp;have b:w.ownsRow 0 r.e r.s r.v r.n r.xs:=hs.own _ (fB hi);obtain⟨A,c,hv⟩:∃A c,r.v=.slice A r.n c:=by
  rcases b.2 with⟨h1,h2⟩|⟨g,cap,cur,h1,_⟩
  ·exact⟨none,0,by rw[h1,h2]⟩
  ·exact⟨_,_,h1⟩
 rw[hv]at e0;generalize a.eval=ρ at e0;simp[execOp,e0,resolve,invoke,builtin,Builtin.len_,run_underlying ht,goInt]
theorem Rw.sl{α:Type}{enc:α→List Value}{r:Rw}{xs:List α}(h:Bk.sh (.inr r) μ)(hn:xs.length=r.n)(he:∀x∈xs,(enc x).length=r.s)(k:r.xs=xs.flatMap enc):∃A c,r.v=.slice A r.n c∧Sl enc r.s μ A r.n xs∧c≤maxLen:=by
 rcases h.2 with⟨h1,h2⟩|⟨g,cap,cur,h1,h2,h3,h4,h5,h6⟩
 ·exact⟨none,0,by rw[h1,h2],⟨hn,fun h=>by omega⟩,by simp⟩
 ·refine⟨_,_,h1,⟨hn,fun _=>⟨_,rfl,fun i x hi=>?_⟩⟩,h4⟩;rw[k]at h6
  have key:∀(xs:List α) (i:Nat) (x:α),(∀x∈xs,(enc x).length=r.s)→xs[i]? =some x→∀j v,(enc x)[j]? =some v→(xs.flatMap enc)[i*r.s+j]? =some v:=by
   intro xs;induction xs with
   |nil=>intro i x _ h;simp at h
   | cons y xs ih=>
     intro i x he hi j v a;have b:=he y (by simp);cases i with
     | zero=>
       simp at hi;subst hi;simp only[dA,jU,dT];rw[bY (List.getElem?_eq_some_iff.1 a).1];exact a
     | succ i=>
       simp only[dA];rw[bQ (by rw[b,dK];omega),b,show(i+1)*r.s+j-r.s=i*r.s+j by rw[dK];omega];exact ih i x (fun z d=>he z (by simp[d])) (by simpa using hi) j v a
  intro j v a;have hk:=key xs i x he hi j v a;rw[rN,add_lit];refine⟨cur,r.e,(0,0),h2,rfl,?_⟩;rw[←h6,cT]at hk;split at hk
  ·simpa using hk
  ·cases hk
theorem St.kU(h:St X μ l L a w)(e s:TypeId):St X μ l (.inr ⟨.slice none 0 0,e,s,0,[]⟩::L) a w:=
 h.JA ⟨by simp,.inl ⟨rfl,rfl⟩⟩ (World.grownBy.refl w _) (fun b hb=>by simp[Value.ownBlock]at hb)
theorem St.QQ{b t n s:Nat}{cs:bG}{xs:List Value}(h:St X μ l (.inl ⟨b,t,n*s,cs⟩::L) a w)(hc:LC cs 0 (n*s) xs)(hn:n≤maxLen):St X μ l (.inr ⟨.slice (some ⟨b,0,none⟩) n n,t,s,n,xs⟩::L) a w:=by
 obtain⟨arr,h1,h2,h3⟩:=h.own _ (dN _);have k:w.heap[b]? =some (.cells arr t (0,0)):=h1;have j:arr.size=n*s:=h2;have c:w.ownsRow 0 t s (.slice (some ⟨b,0,none⟩) n n) n xs:=by
  refine⟨hc.len,.inr ⟨b,n,arr,rfl,cU _,k,aP _,hn,j,?_⟩⟩;apply lB;intro i;rw[cT];by_cases hi:i<n*s
  ·have d:i<xs.length:=by rw[hc.len];exact hi
   have o:xs[i]? =some xs[i]:=aI d;have:=h3 i _ (by simpa using hc.get i _ o);rw[if_pos hi,o];simpa using this
  ·rw[if_neg hi,dQ (by rw[hc.len];omega)]
 have:=h.upd (i:=0) (x:=.inl ⟨b,t,n*s,cs⟩) (y:=.inr ⟨.slice (some ⟨b,0,none⟩) n n,t,s,n,xs⟩) rfl rfl rfl rfl (aP _) (fun _ _ _=>rfl) c (fun b' g=>.inl g);exact this
def CT(w:World)(e:TypeId)(s n:Nat)(xs:List Value)(en:Ending)(w' :World):Prop:=∃v,en=.returned v∧w'.ownsRow w.heap.size e s v n xs∧Below w.heap.size w w'
theorem RX{fn:Func}{t n e s m:Nat}{v:Value}{μ0:Mem}{xs:List Value}(i:Nat)(hr:fn.results= #[.tmp t])(hv:lk l t=some v)(hi:jO L i=some (.inr ⟨v,e,s,m,xs⟩)):
 GQ ⟨w,μ0,[],n⟩ (bodyPost P fn (CT w e s m xs)) .ret μ l L:=fun a w' hs=>by
 have h1:=hs.slots _ _ hv;have hm:=fB hi;have b:w'.ownsRow 0 e s v m xs:=hs.own _ hm;refine⟨hs.defers.none (by simp),v,by simp[results,hr,h1],v,rfl,⟨b.1,b.2.imp (fun h=>h) ?_⟩,hs.cW.below⟩;rintro⟨g,cap,cur,c,_,h3⟩;refine⟨g,cap,cur,c,?_,h3⟩;rcases hs.new _ hm g (by simp[Bk.id,c,Value.ownBlock])with h4|h4
 ·simp at h4
 ·exact h4
theorem St.VY(h:St X μ l L a w){v:Value}{w' :World}{e:TypeId}{s n:Nat}{xs:List Value}(hr:w'.ownsRow w.heap.size e s v n xs)(hb:Below w.heap.size w w'):St X μ l (.inr ⟨v,e,s,n,xs⟩::L) a w' :=by
 refine h.JA ⟨hr.1,hr.2.imp (fun h=>h) ?_⟩ ⟨hb.os,hb.tape,hb.output,hb.size,fun b c _=>hb.block b c⟩ (fun b c=>?_)
 ·rintro⟨g,cap,cur,d,_,h3⟩;exact⟨g,cap,cur,d,cU _,h3⟩
 ·rcases hr.2 with⟨h1,_⟩|⟨g,cap,cur,d,h4,_⟩
  ·rw[h1]at c;simp[Value.ownBlock]at c
  ·rw[d]at c;simp[Value.ownBlock]at c;omega
theorem MP{f:FuncId}{vs:Array Value}{e s n:Nat}{xs:List Value}(hd:o.dst=some d)(hn:Nat.blt d X.n=true)(hw:dW ops l o=some true)
 (hr:Ent P μ l L o f vs)(hc:∀w μc,MOk μc w→KD μc μ L→Calls P f vs w (CT w e s n xs))
 (h:∀v,G P X ops Q rest μ ((d,v)::l) (.inr ⟨v,e,s,n,xs⟩::L)):G P X ops Q (o::rest) μ l L:=
 BU hw fun a w hs=>by
  unfold Oper.wp;rw[hr a w hs.rd,Oper.upon_enter];refine(hc w _ (fun _ _ h=>h) hs.aGg).mono fun en w' he=>?_;obtain⟨v,rfl,h1,h2⟩:=he;show wpList P ops Q rest (a.put o.dst v) w'
  rw[hd];exact h v _ _ ((hs.VY h1 h2).put hn _)
theorem St.aBd(h:St X μ l L a w){i:Nat}{r:Rw}(hi:jO L i=some (.inr r))(hn:0<r.n):∃g cap,r.v=.slice (some ⟨g,0,none⟩) r.n cap∧r.n≤cap:=by
 have b:w.ownsRow 0 r.e r.s r.v r.n r.xs:=h.own _ (fB hi);rcases b.2 with⟨_,h2⟩|⟨g,cap,cur,h1,_,_,h4,_⟩
 ·omega
 ·exact⟨g,cap,h1,h4⟩
theorem ES{c:Code}{v:Value}{e s n:Nat}{ys:List Value}(i:Nat)(hi:jO L i=some (.inr ⟨v,e,s,n,ys⟩))(hn:0<n)(h:∀g cap,v=.slice (some ⟨g,0,none⟩) n cap→n≤cap→GC P X c Q μ l L):GC P X c Q μ l L:=fun a w hs=>by
 obtain⟨g,cap,h1,h2⟩:=hs.aBd hi hn;exact h g cap h1 h2 a w hs
theorem XI{α:Type}{enc:α→List Value}{v:Value}{e s n:Nat}{ys:List Value}{xs:List α}(h:Bk.sh (.inr ⟨v,e,s,n,ys⟩) μ)(hn:xs.length=n)(he:∀x∈xs,(enc x).length=s)(a:ys=xs.flatMap enc):∃A c,v=.slice A n c∧Sl enc s μ A n xs:=by
 obtain⟨A,c,h1,h2,_⟩:=Rw.sl (enc:=enc) h hn he a;exact⟨A,c,h1,h2⟩
theorem bD{α:Type}{enc:α→List Value}{A:Option Addr}{n c e s:Nat}{ys:List Value}{xs:List α}(h:Bk.sh (.inr ⟨.slice A n c,e,s,n,ys⟩) μ)(hn:xs.length=n)(he:∀x∈xs,(enc x).length=s)(a:ys=xs.flatMap enc):Sl enc s μ A n xs:=by
 obtain⟨A',c',h1,h2,_⟩:=Rw.sl (enc:=enc) h hn he a;cases h1;exact h2
theorem Rd.IS(h:Rd μ l L a w){g n cap off:Nat}{e s:TypeId}{xs:List Value}{v:Value}(hm: .inr ⟨.slice (some ⟨g,0,none⟩) n cap,e,s,n,xs⟩∈L)(hv:xs[off]? =some v):w.cell? ⟨g,off,none⟩=some v:=by
 have b:w.ownsRow 0 e s (.slice (some ⟨g,0,none⟩) n cap) n xs:=h.own _ hm;rcases b.2 with⟨h1,_⟩|⟨g',cap',cur,h1,_,h2,_,_,_,h6⟩
 ·cases h1
 ·cases h1;rw[←h6,cT]at hv;split at hv
  ·simpa[World.cell?,h2]using hv
  ·cases hv
theorem kL{x:Operand}{v:Value}{t:TypeId}{ds:Option Nat}{g n cap off:Nat}{e s:TypeId}{xs:List Value}(i:Nat)(a:pM P t=some false)
 (hi:jO L i=some (.inr ⟨.slice (some ⟨g,0,none⟩) n cap,e,s,n,xs⟩))(b:ev l x=some (.pointer (some (Addr.add ⟨g,0,none⟩ off))))(hv:xs[off]? =some v):Val P μ l L ⟨ds,.load t x,ty,pos,af,gd⟩ v:=
 zM b (fun _ _ hs=>qU a (by rw[add_lit,dT];exact hs.IS (fB (i:=i) hi) hv))
theorem KI{x:Operand}{t:TypeId}{ds:Option Nat}{g n cap off k:Nat}{e s:TypeId}{xs vs:List Value}(i:Nat)(b:pM P t=some true)(a:gW P t=some k)
 (hi:jO L i=some (.inr ⟨.slice (some ⟨g,0,none⟩) n cap,e,s,n,xs⟩))(c:ev l x=some (.pointer (some (Addr.add ⟨g,0,none⟩ off))))(hl:vs.length=k)(hv:∀j v,vs[j]? =some v→xs[off+j]? =some v):Val P μ l L ⟨ds,.load t x,ty,pos,af,gd⟩ (.agg vs.toArray):=
 zM c (fun _ _ hs=>rS vs b (by rw[hl];exact a) (fun j v d=>by rw[rN,add_lit,dT];exact hs.IS (fB (i:=i) hi) (hv j v d)))
theorem EQ(l vs:List Value)(off i:Nat)(h:off+vs.length≤l.length):(l.take off++vs++l.drop (off+vs.length))[i]? =if i<off then l[i]? else if i<off+vs.length then vs[i-off]? else l[i]? :=by
 have h1:(l.take off).length=off:=by simp;omega
 by_cases a:i<off
 ·rw[if_pos a,bR,bY (by omega),cT,if_pos a]
 ·rw[if_neg a];by_cases b:i<off+vs.length
  ·rw[if_pos b,bR,bQ (by omega),bY (by omega),h1]
  ·rw[if_neg b,bQ (by simp;omega),eE];congr 1;simp;omega
theorem IK{cur xs vs:List Value}{k off:Nat}(h:cur.take k=xs)(ho:off+vs.length≤xs.length):
 (cur.take off++vs++cur.drop (off+vs.length)).take k=xs.take off++vs++xs.drop (off+vs.length):=by
 have hl:xs.length=min k cur.length:=by rw[←h];simp
 apply lB;intro i;rw[cT,EQ _ _ _ _ (by omega),EQ _ _ _ _ ho];by_cases hi:i<k
 ·have e:xs[i]? =cur[i]? :=by rw[←h,cT,if_pos hi]
  rw[if_pos hi,e]
 ·have e:xs[i]? =none:=by rw[←h,cT,if_neg hi]
  rw[if_neg hi,if_neg (by omega),if_neg (by omega),e]
theorem pI{x q:Operand}{t:TypeId}{off n g cap m e s:Nat}{xs:List Value}{v:Value}(i:Nat)(hw:dW ops l ⟨none,.store t q x,ty,pos,af,gd⟩=some true)(o:gW P t=some n)
 (hi:jO L i=some (.inr ⟨.slice (some ⟨g,0,none⟩) m cap,e,s,m,xs⟩))(hq:ev l q=some (.pointer (some (Addr.add ⟨g,0,none⟩ off))))(z:ev l x=some v)(hlen:v.cells.toList.length=n)(hone:v.cells.toList.all (·.oneCell')=true)
 (k:off+n≤xs.length)
 (h:G P X ops Q rest μ l (nQ L i (.inr ⟨.slice (some ⟨g,0,none⟩) m cap,e,s,m,xs.take off++v.cells.toList++xs.drop (off+n)⟩))):G P X ops Q (⟨none,.store t q x,ty,pos,af,gd⟩::rest) μ l L:=
 BU hw fun a w hs=>by
  have e0:=hs.eval hq;have e1:=hs.eval z;rw[add_lit,dT]at e0;have c:w.ownsRow 0 e s (.slice (some ⟨g,0,none⟩) m cap) m xs:=hs.own _ (fB hi);rcases c.2 with⟨h1,_⟩|⟨g',cap',cur,h1,ab,r,h3,h4,h5,h6⟩
  ·cases h1
  cases h1;have aa:xs.length≤cur.size:=by rw[←h6];simp;omega
  have j:=run_storeCells_at (P:=P) g off e v.cells.toList 0 cur w r (by rw[hlen];omega) (fY.1 hone);have d:(Instr.storeAt t (.pointer (some ⟨g,off,none⟩)) v).run P w=.ok () (w.setRow g (cur.toList.take (off+0)++v.cells.toList++cur.toList.drop (off+0+v.cells.toList.length)).toArray):=by
   have p:¬v.cells.size≠n:=by simpa using hlen
   simp only[Instr.storeAt,Instr.sureAddr,storeVar,Sem.run_bind,Sem.run_pure,Result.andThen_ok,run_sizeOf o,if_neg p];exact j
  unfold Oper.wp;generalize u:a.eval=ρ at e0 e1;have hex:(execOp ρ ⟨none,.store t q x,ty,pos,af,gd⟩).run P w=.ok .skip (w.setRow g (cur.toList.take (off+0)++v.cells.toList++cur.toList.drop (off+0+v.cells.toList.length)).toArray):=by simp only[execOp,e0,e1,Sem.run_bind,d,Result.andThen_ok];rfl
  rw[hex,Oper.upon_skip];simp only[cM]at*;refine h _ _ ((hs.upd (w' :=w.setRow g (cur.toList.take off++v.cells.toList++cur.toList.drop (off+v.cells.toList.length)).toArray) hi rfl rfl rfl (by simp) (fun b _ hb=>setRow_other w g b _ (fun e=>hb (by rw[e];rfl))) (y:=.inr ⟨.slice (some ⟨g,0,none⟩) m cap,e,s,m,xs.take off++v.cells.toList++xs.drop (off+n)⟩) ?_ (fun b hb=>.inl hb)).LQ _);refine⟨?_,.inr ⟨g,cap,_,rfl,cU _,setRow_heap w g cur _ e (0,0) r,h3,h4,?_,?_⟩⟩
  ·have:=c.1;simp only[aB,bZ,bC,hlen];show _=m*s
   rw[←this];omega
  ·simp only[List.size_toArray,aB,bZ,bC,hlen,gA];rw[←h5];omega
  ·have:=IK (vs:=v.cells.toList) h6 (by rw[hlen];exact k);rw[hlen]at this⊢;simpa using this
end
section drawn
variable{P:Program}{X:Ctx}{ops:Array Oper}{Q:Exit→Act→World→Prop}{μ μr:Mem}{l:bG}{L:List Bk}{a:Act}{w:World}{o:Oper}{d fuel i:Nat}{listed:Array Bool}
variable{ty:TypeId}{pos:String}{af:Array Edge}{gd:Option (Nat×Bool)}
end drawn
end
section
open Go.RowKit
section
variable{P:Program}{μ:Mem}{l:bG}{L:List Bk}{w:World}{ds:Option Nat}{ty:TypeId}{pos:String}{af:Array Edge}{gd:Option (Nat×Bool)}
theorem vA{t:TypeId}{cs:Array Value}{off:Nat}{v:Value}(a:pM P t=some false)(hc:cs[off]? =some v):(part t cs off).run P w=.ok v w:=by
 simp[part,zR a,hc]
theorem aD4{p q:Operand}{t t2:TypeId}{x y:Bool}(ht:P.underlying t=some .bool)(hx0:ev l p=some (.bool x))(hx1:ev l q=some (.bool y)):Val P μ l L ⟨ds,.binOp .eql t p q t2,ty,pos,af,gd⟩ (.bool (decide (x=y))):=fun a w hs=>by
 have e0:=hs.eval hx0;have e1:=hs.eval hx1;generalize a.eval=ρ at e0 e1;have h:=run_equalIn_bool' (P:=P) w 9999 t x y ht;simp[execOp,e0,e1,eqGuard,binOp,Op.equal,Op.maxDepth,h,Bool.beq_eq_decide_eq]
theorem aD3{p q:Operand}{t t2:TypeId}{x y:Bool}(ht:P.underlying t=some .bool)(hx0:ev l p=some (.bool x))(hx1:ev l q=some (.bool y)):Val P μ l L ⟨ds,.binOp .neq t p q t2,ty,pos,af,gd⟩ (.bool (decide (x≠y))):=fun a w hs=>by
 have e0:=hs.eval hx0;have e1:=hs.eval hx1;generalize a.eval=ρ at e0 e1;have h:=run_equalIn_bool' (P:=P) w 9999 t x y ht;simp[execOp,e0,e1,eqGuard,binOp,Op.equal,Op.maxDepth,h,Bool.beq_eq_decide_eq]
end
end
section
open Go.RowKit
section
variable{P:Program}{X:Ctx}{ops:Array Oper}{Q:Exit→Act→World→Prop}{rest:List Oper}{μ μr:Mem}{l:bG}{L Lr:List Bk}{a:Act}{w:World}{o:Oper}{d fuel i:Nat}{listed:Array Bool}
variable{ty:TypeId}{pos:String}{af:Array Edge}{gd:Option (Nat×Bool)}
theorem St.pD{b t:Nat}{cs:bG}(s:Nat)(h:St X μ l (.inl ⟨b,t,0,cs⟩::L) a w):St X μ l (.inr ⟨.slice (some ⟨b,0,none⟩) 0 0,t,s,0,[]⟩::L) a w:=by
 have e:(0:Nat)=0*s:=by simp
 rw[e]at h;have hc:LC cs 0 (0*s) []:=by rw[←e];exact bH
 exact h.QQ hc (by simp)
theorem aFj{b t:Nat}{cs:bG}(s:Nat)(h:G P X ops Q rest μ l (.inr ⟨.slice (some ⟨b,0,none⟩) 0 0,t,s,0,[]⟩::L)):G P X ops Q rest μ l (.inl ⟨b,t,0,cs⟩::L):=fun a w hs=>h a w (hs.pD s)
end
end
section
open Go.RowKit
section
variable{P:Program}{X:Ctx}{ops:Array Oper}{Q:Exit→Act→World→Prop}{rest:List Oper}{μ μr:Mem}{l:bG}{L Lr:List Bk}{a:Act}{w:World}{o:Oper}{d fuel i:Nat}{listed:Array Bool}
variable{ty:TypeId}{pos:String}{af:Array Edge}{gd:Option (Nat×Bool)}
theorem qN{k:Nat}{y:Nat}{c:BoundsCode}(h:k≤y)(w:World):(Instr.sliceBound (.int .i64 (k:Int)) y c).run P w=.ok k w:=by
 have:(0:Int)≤k∧(k:Int)≤y:=by omega
 simp[Instr.sliceBound,asIntOf,this]
theorem CY{p q:Operand}{t e s:TypeId}{A:Option Addr}{n c:Nat}{j:Int}{ds:Option Nat}(k:Nat)(ht:P.underlying t=some (.slice e))(hs:gW P e=some s)(d:ev l p=some (.slice A n c))(g:ev l q=some (.int .i64 j))(h:j=(k:Int))(hk:k≤c):
 Val P μ l L ⟨ds,.slice t p none (some q) none,ty,pos,af,gd⟩ (.slice A k c):=fun a w hr=>by
 have e0:=hr.eval d;have e1:=hr.eval g;generalize a.eval=ρ at e0 e1;subst h;have b:A.map (·.add (0*s))=A:=by cases A<;>simp[Addr.add]
 simp only[jU]at b;simp[execOp,e0,e1,Instr.sliceAt,Instr.slice,run_underlying ht,Instr.sliceBounds,run_sizeOf hs,qN hk,b]
theorem tJ{p q:Operand}{t e s:TypeId}{A:Option Addr}{n c:Nat}{j:Int}{ds:Option Nat}(k:Nat)(ht:P.underlying t=some (.slice e))(hs:gW P e=some s)(b:ev l p=some (.slice A n c))(d:ev l q=some (.int .i64 j))(g:j=(k:Int))(hk:k≤n):
 Val P μ l L ⟨ds,.slice t p (some q) none none,ty,pos,af,gd⟩ (.slice (if c=k then A else A.map (·.add (k*s))) (n-k) (c-k)):=fun a w hr=>by
 have e0:=hr.eval b;have e1:=hr.eval d;generalize a.eval=ρ at e0 e1;subst g;simp[execOp,e0,e1,Instr.sliceAt,Instr.slice,run_underlying ht,Instr.sliceBounds,run_sizeOf hs,qN hk]
theorem KH{p q:Operand}{t:TypeId}{b:ByteArray}{j:Int}{ds:Option Nat}(k:Nat)(ht:P.underlying t=some .string)(c:ev l p=some (.string b))(d:ev l q=some (.int .i64 j))(g:j=(k:Int))(hk:k≤b.size):
 Val P μ l L ⟨ds,.slice t p none (some q) none,ty,pos,af,gd⟩ (.string (b.extract 0 k)):=fun a w hr=>by
 have e0:=hr.eval c;have e1:=hr.eval d;generalize a.eval=ρ at e0 e1;subst g;simp[execOp,e0,e1,Instr.sliceAt,Instr.slice,run_underlying ht,Instr.sliceBounds,qN hk]
theorem dR{p q:Operand}{t:TypeId}{b:ByteArray}{j:Int}{ds:Option Nat}(k:Nat)(ht:P.underlying t=some .string)(c:ev l p=some (.string b))(d:ev l q=some (.int .i64 j))(g:j=(k:Int))(hk:k≤b.size):
 Val P μ l L ⟨ds,.slice t p (some q) none none,ty,pos,af,gd⟩ (.string (b.extract k b.size)):=fun a w hr=>by
 have e0:=hr.eval c;have e1:=hr.eval d;generalize a.eval=ρ at e0 e1;subst g;simp[execOp,e0,e1,Instr.sliceAt,Instr.slice,run_underlying ht,Instr.sliceBounds,qN hk]
theorem cA{p q r:Operand}{t:TypeId}{b:ByteArray}{j i:Int}{ds:Option Nat}(k m:Nat)(ht:P.underlying t=some .string)(d:ev l p=some (.string b))(g:ev l q=some (.int .i64 j))(h:j=(k:Int))(c:ev l r=some (.int .i64 i))(hi:i=(m:Int))(hk:k≤m)(hm:m≤b.size):
 Val P μ l L ⟨ds,.slice t p (some q) (some r) none,ty,pos,af,gd⟩ (.string (b.extract k m)):=fun a w hr=>by
 have e0:=hr.eval d;have e1:=hr.eval g;have e2:=hr.eval c;generalize a.eval=ρ at e0 e1 e2;subst h hi;simp[execOp,e0,e1,e2,Instr.sliceAt,Instr.slice,run_underlying ht,Instr.sliceBounds,qN hk,qN hm]
theorem Sl.take{α:Type}{enc:α→List Value}{s n k:Nat}{A:Option Addr}{xs:List α}(h:Sl enc s μ A n xs)(hk:k≤n):Sl enc s μ A k (xs.take k):=by
 refine⟨by simp[h.1];omega,fun hp=>?_⟩;obtain⟨ad,e,hc⟩:=h.2 (by omega);exact⟨ad,e,fun i x hi=>hc i x (by rw[cT]at hi;split at hi<;>simp_all)⟩
theorem Sl.drop{α:Type}{enc:α→List Value}{s n k c:Nat}{A:Option Addr}{xs:List α}(h:Sl enc s μ A n xs)(hk:k≤n)(hc:n≤c):Sl enc s μ (if c=k then A else A.map (·.add (k*s))) (n-k) (xs.drop k):=by
 refine⟨by simp[h.1],fun hp=>?_⟩;obtain⟨ad,e,hc⟩:=h.2 (by omega);rw[if_neg (by omega),e];refine⟨_,rfl,fun i x hi=>?_⟩;have:=hc (k+i) x (by simpa using hi);rw[dK,←rN]at this;exact this
theorem Bk.cap{A:Option Addr}{n c e s m:Nat}{xs:List Value}(h:Bk.sh (.inr ⟨.slice A n c,e,s,m,xs⟩) μ):n≤c:=by
 rcases h.2 with⟨h1,_⟩|⟨g,cap,cur,h1,_,h3,_⟩
 ·simp at h1;omega
 ·simp at h1 h3;omega
end
end
section
open Go.RowKit
section
variable{P:Program}{X:Ctx}{ops:Array Oper}{Q:Exit→Act→World→Prop}{rest:List Oper}{μ μr:Mem}{l:bG}{L Lr:List Bk}{a:Act}{w:World}{o:Oper}{d fuel i:Nat}{listed:Array Bool}
variable{ty:TypeId}{pos:String}{af:Array Edge}{gd:Option (Nat×Bool)}{ds:Option Nat}
def QA(Q:Exit→Act→World→Prop)(R:Act→World→Prop):Exit→Act→World→Prop
 |.normal,a,w=>R a w
 |.exit id,a,w=>Q (.exit id) a w
 |.goto k,a,w=>Q (.goto k) a w
 |.ret,a,w=>Q .ret a w
 |.panic c,a,w=>Q (.panic c) a w
 |.outgrown,a,w=>Q .outgrown a w
theorem aC6{R K:Act→World→Prop}(h:o.wp P a w K (QA Q R)):o.wp P a w K Q:=by
 unfold Oper.wp at*;generalize (execOp a.eval o).run P w=r at*;cases r with
 | ok n w' =>
   cases n<;>first
    |exact h
    | (refine Calls.mono h (fun e w'' he=>?_)
       cases e with
       |returned v=>exact he
       |panicked c=>exact he
       |outgrown=>obtain⟨a',w3,b⟩:=he;exact⟨a',w3,b⟩)
 |halt x w' =>cases x<;>exact h
theorem aFg(ho:sD ops.toList i=some o)(h:G P X ops (QA Q (fun a w=>Sm μr Lr w∧wpAnyH P .any ops Q (Sm μr Lr) fuel (listed.setIfInBounds i true) a w)) [o] μ l L):dV P X μr Lr ops Q fuel listed i μ l L:=fun a w b c=>by
 have h1:=h a w b;unfold wpOp;simp only[vI ho];unfold wpList at h1;split
 ·rename_i hw;rw[if_pos hw]at h1;rcases h1 with h1|⟨h1,a',w',h2⟩
  ·exact .inl (aC6 h1)
  ·exact .inr ⟨h1,a',w',h2⟩
 ·rename_i hw;rw[if_neg hw]at h1;exact h1
theorem ZQ(hle:MLe μr μ)(hLr:Lr.Sublist L)(h:GA P X μr Lr ops Q fuel listed μ l L):G P X ops (QA Q (fun a w=>Sm μr Lr w∧wpAnyH P .any ops Q (Sm μr Lr) fuel listed a w)) [] μ l L:=fun a w hs=>
 have c:Sm μr Lr w:=⟨fun b x e=>hs.mem b x (hle b x e),fun x d=>hs.own x (hLr.subset d)⟩
 ⟨c,h a w hs c⟩
theorem St.perm{L' :List Bk}(h:St X μ l L a w)(hp:L'.Perm L):St X μ l L' a w:=
 ⟨h.size,h.defers,h.slots,h.cW,h.mem,h.from0,h.fresh,fun x c=>h.own x (hp.subset c),fun x c=>h.priv x (hp.subset c),fun x c=>h.new x (hp.subset c),
   (hp.pairwise_iff (fun{_ _} d b hb g=>d b g hb)).2 h.diff⟩
theorem St.wL{L' :List Bk}{y:Bk}(h:St X μ l L a w)(hp:(y::L').Perm L)(b:X.M=X.M):∃μ',MLe μ μ' ∧Bk.sh y μ' ∧St X μ' l L' a w:=(h.perm hp).aDc b
theorem HX{y:Bk}{L:List Bk}(b:X.M=X.M)(h:∀μ',MLe μ μ' →Bk.sh y μ' →G P X ops Q rest μ' l (L)):G P X ops Q rest μ l (y::L):=fun a w hs=>by
 obtain⟨μ',h1,h2,h3⟩:=hs.wL (L' :=L) (eR (l₁:=[])).symm b;exact h μ' h1 h2 a w h3
theorem EL{e:Exit}{y:Bk}{L:List Bk}(b:X.M=X.M)(h:∀μ',MLe μ μ' →Bk.sh y μ' →GQ X Q e μ' l (L)):GQ X Q e μ l (y::L):=fun a w hs=>by
 obtain⟨μ',h1,h2,h3⟩:=hs.wL (L' :=L) (eR (l₁:=[])).symm b;exact h μ' h1 h2 a w h3
theorem VU{y:Bk}{y0:Bk}{L:List Bk}(b:X.M=X.M)(h:∀μ',MLe μ μ' →Bk.sh y μ' →G P X ops Q rest μ' l (y0::L)):G P X ops Q rest μ l (y0::y::L):=fun a w hs=>by
 obtain⟨μ',h1,h2,h3⟩:=hs.wL (L' :=y0::L) (eR (l₁:=[y0])).symm b;exact h μ' h1 h2 a w h3
theorem gB{c:Code}{y:Bk}{y0:Bk}{L:List Bk}(b:X.M=X.M)(h:∀μ',MLe μ μ' →Bk.sh y μ' →GC P X c Q μ' l (y0::L)):GC P X c Q μ l (y0::y::L):=fun a w hs=>by
 obtain⟨μ',h1,h2,h3⟩:=hs.wL (L' :=y0::L) (eR (l₁:=[y0])).symm b;exact h μ' h1 h2 a w h3
theorem rG{e:Exit}{y:Bk}{y0:Bk}{L:List Bk}(b:X.M=X.M)(h:∀μ',MLe μ μ' →Bk.sh y μ' →GQ X Q e μ' l (y0::L)):GQ X Q e μ l (y0::y::L):=fun a w hs=>by
 obtain⟨μ',h1,h2,h3⟩:=hs.wL (L' :=y0::L) (eR (l₁:=[y0])).symm b;exact h μ' h1 h2 a w h3
theorem VT{y:Bk}{y0 y1:Bk}{L:List Bk}(b:X.M=X.M)(h:∀μ',MLe μ μ' →Bk.sh y μ' →G P X ops Q rest μ' l (y0::y1::L)):G P X ops Q rest μ l (y0::y1::y::L):=fun a w hs=>by
 obtain⟨μ',h1,h2,h3⟩:=hs.wL (L' :=y0::y1::L) (eR (l₁:=[y0,y1])).symm b;exact h μ' h1 h2 a w h3
def ResultVar.get(tmps:Array Value):ResultVar→Sem Value
 |.tmp t=>pure (tmps.getD t undef)
 |.cell a t=>do loadVar t (←asAddr (tmps.getD a undef))
def RV(P:Program)(μ:Mem)(l:bG)(L:List Bk)(r:ResultVar)(v:Value):Prop:=∀a w,Rd μ l L a w→(ResultVar.get a.tmps r).run P w=.ok v w
theorem aN{t:Nat}{v:Value}(h:lk l t=some v):RV P μ l L (.tmp t) v:=fun a w hr=>by
 have h1:=hr.slots _ _ h;simp[ResultVar.get,h1]
theorem aEl{t:Nat}{b s:Nat}{tt:TypeId}{y:Blk}{vs:List Value}(i:Nat)(h:lk l t=some (.pointer (some ⟨b,0,none⟩)))(d:pM P tt=some true)(c:gW P tt=some s)(hi:jO L i=some (.inl y))(hb:y.b=b)(hc:LC y.cs 0 s vs):RV P μ l L (.cell t tt) (.agg vs.toArray):=fun a w hr=>by
 have h1:=hr.slots _ _ h;subst hb;have:=rS (P:=P) (w:=w) (t:=tt) (A:=⟨y.b,0,none⟩) vs d (by rw[hc.len];exact c) (fun j v hv=>by rw[add_lit];exact hr.cell (fB (i:=i) hi) (by simpa using hc.get j v hv));simp only[Instr.loadAt,Instr.sureAddr,Sem.run_bind,Sem.run_pure,Result.andThen_ok]at this;simp[ResultVar.get,h1,asAddr,this]
theorem RG{t b s:Nat}{tt:TypeId}{y:Blk}{vs:List Value}(i:Nat)(h:lk l t=some (.pointer (some ⟨b,0,none⟩)))(c:pM P tt=some true)(a:gW P tt=some s)(hi:jO L i=some (.inl y))(hb:y.b=b)(hc:LC y.cs 0 s vs:=by repeat first|exact bH|refine bA rfl ?_):RV P μ l L (.cell t tt) (.agg vs.toArray):=aEl i h c a hi hb hc
theorem results1{fn:Func}{r:ResultVar}{v:Value}(hr:fn.results= #[r])(h:RV P μ l L r v)(hs:Rd μ l L a w):(results fn a.tmps).run P w=.ok v w:=by
 have h1:=h a w hs;cases r<;>simp[results,hr,ResultVar.get]at h1⊢ <;>exact h1
theorem rZ{α β γ:Type}{x:Result α}{f:α→World→Result β}{g:β→World→Result γ}{v:β}{w:World}(h:x.andThen f=.ok v w):(x.andThen fun a w' =>(f a w').andThen g)=g v w:=by
 cases x with
 |ok a w' =>simp only[Result.andThen_ok]at h⊢;rw[h];rfl
 |halt y w' =>cases h
theorem results2{fn:Func}{r r2:ResultVar}{v v2:Value}(hr:fn.results= #[r,r2])(h:RV P μ l L r v)(b:RV P μ l L r2 v2)(hs:Rd μ l L a w):(results fn a.tmps).run P w=.ok (.tuple #[v,v2]) w:=by
 have h1:=h a w hs;have h2:=b a w hs;cases r<;>cases r2<;>simp[results,hr,ResultVar.get]at h1 h2⊢
 ·exact⟨h1,h2⟩
 ·rw[rZ h2,h1]
 ·rw[rZ h1,h2]
 ·rw[rZ h1,rZ h2]
theorem xS{fn:Func}{n:Nat}{r:ResultVar}{v v' :Value}{μ0:Mem}(hr:fn.results= #[r])(h:RV P μ l L r v')(e:v' =v):
 GQ ⟨w,μ0,[],n⟩ (bodyPost P fn (fun e w' =>e=.returned v∧Below w.heap.size w w')) .ret μ l L:=fun a w' hs=>
 ⟨hs.defers.none (by simp),v',results1 hr h hs.rd,by rw[e],hs.cW.below⟩
theorem eY{fn:Func}{n:Nat}{r r2:ResultVar}{v v' v2 v2' :Value}{μ0:Mem}(hr:fn.results= #[r,r2])(h:RV P μ l L r v')(b:RV P μ l L r2 v2')(e:v' =v)(e2:v2' =v2):
 GQ ⟨w,μ0,[],n⟩ (bodyPost P fn (fun e w' =>e=.returned (.tuple #[v,v2])∧Below w.heap.size w w')) .ret μ l L:=fun a w' hs=>
 ⟨hs.defers.none (by simp),.tuple #[v',v2'],results2 hr h b hs.rd,by rw[e,e2],hs.cW.below⟩
theorem OP{fn:Func}{n:Nat}{r:ResultVar}{v:Value}{μ0:Mem}{Post:Mem→Value→Prop}(hr:fn.results= #[r])(h:RV P μ l L r v)(hp:∀μ',MLe μ μ' →(∀x∈L,Bk.sh x μ')→Post μ' v):
 GQ ⟨w,μ0,[],n⟩ (bodyPost P fn (fun e w' =>∃v μ',e=.returned v∧oH w w' μ0 μ' ∧Post μ' v)) .ret μ l L:=fun a w' hs=>by
 obtain⟨μ',hg,hle,hL⟩:=hs.JB;exact⟨hs.defers.none (by simp),v,results1 hr h hs.rd,v,μ',rfl,hg,hp μ' hle hL⟩
theorem fE{fn:Func}{n:Nat}{r r2:ResultVar}{v v2:Value}{μ0:Mem}{Post:Mem→Value→Prop}(hr:fn.results= #[r,r2])(h:RV P μ l L r v)(b:RV P μ l L r2 v2)(hp:∀μ',MLe μ μ' →(∀x∈L,Bk.sh x μ')→Post μ' (.tuple #[v,v2])):
 GQ ⟨w,μ0,[],n⟩ (bodyPost P fn (fun e w' =>∃v μ',e=.returned v∧oH w w' μ0 μ' ∧Post μ' v)) .ret μ l L:=fun a w' hs=>by
 obtain⟨μ',hg,hle,hL⟩:=hs.JB;exact⟨hs.defers.none (by simp),_,results2 hr h b hs.rd,_,μ',rfl,hg,hp μ' hle hL⟩
theorem GX{f:FuncId}{q:Operand}{cap:Array Value}{xs:Array Operand}{ts:Array TypeId}{ρ:Operand→Value}(hf:hG P f=true)(a:ρ q=.func (.func f) #[] cap)(w:World):
 (execOp ρ ⟨ds,.call { callee:=.value q,args:=xs,argTypes:=ts },ty,pos,af,gd⟩).run P w=.ok (.enter f (xs.map ρ++cap)) w:=by
 unfold hG at hf;cases h:P.funcs[f]? with
 |none=>simp[h]at hf
 | some fn=>
   simp only[h,aM,lC]at hf;have hb:¬fn.body=none:=by intro hb;simp[hb]at hf
   have hn:¬fn.name= "runtime.NumGoroutine" :=by have:=hf.2;simpa using this
   simp[execOp,resolve,a,Deferred.ofValue,invoke,callFunc,h,hn,hb]
theorem aAd{f:FuncId}{q:Operand}{cap:List Value}{ts:Array TypeId}{x0:Operand}{v0:Value}(b:ev l q=some (.func (.func f) #[] cap.toArray))(hf:hG P f=true)(c:ev l x0=some v0):Ent P μ l L ⟨ds,.call { callee:=.value q,args:= #[x0],argTypes:=ts },ty,pos,af,gd⟩ f ([v0]++cap).toArray:=fun a w hs=>by
 rw[GX hf (hs.eval b)];have e0:=hs.eval c;simp[e0]
theorem NA{f:FuncId}{q:Operand}{cap:List Value}{ts:Array TypeId}{x0 x1 x2:Operand}{v0 v1 v2:Value}(b:ev l q=some (.func (.func f) #[] cap.toArray))(hf:hG P f=true)(c:ev l x0=some v0)(h1:ev l x1=some v1)(h2:ev l x2=some v2):Ent P μ l L ⟨ds,.call { callee:=.value q,args:= #[x0,x1,x2],argTypes:=ts },ty,pos,af,gd⟩ f ([v0,v1,v2]++cap).toArray:=fun a w hs=>by
 rw[GX hf (hs.eval b)];have e0:=hs.eval c;have e1:=hs.eval h1;have e2:=hs.eval h2;simp[e0,e1,e2]
theorem WR{x y:Operand}{ts:Array TypeId}{i j:Int}(b:ev l x=some (.int .i64 i))(h1:ev l y=some (.int .i64 j)):Val P μ l L ⟨ds,.call { callee:=.builtin .min,args:= #[x,y],argTypes:=ts },ty,pos,af,gd⟩ (.int .i64 (if j<i then j else i)):=fun a w hs=>by
 have e0:=hs.eval b;have e1:=hs.eval h1;generalize a.eval=ρ at e0 e1;simp[execOp,resolve,invoke,builtin,Builtin.min_,Builtin.min2,e0,e1]
structure aAp (A:Option Addr) (n c s:Nat) (xs:List Value):Prop where
 cap:n≤c
 len:xs.length=n*s
 form:(A=none∧n=0∧c=0)∨∃g,A=some ⟨g,0,none⟩
theorem St.aDf(h:St X μ l L a w){i:Nat}{r:Rw}(hi:jO L i=some (.inr r)):∃A c,r.v=.slice A r.n c∧aAp A r.n c r.s r.xs:=by
 have b:w.ownsRow 0 r.e r.s r.v r.n r.xs:=h.own _ (fB hi);rcases b.2 with⟨h1,h2⟩|⟨g,cap,cur,h1,h3,h4,h5,h6⟩
 ·exact⟨none,0,by rw[h1,h2],by omega,b.1,.inl ⟨rfl,h2,rfl⟩⟩
 ·exact⟨_,_,h1,h5,b.1,.inr ⟨g,rfl⟩⟩
theorem bB{v:Value}{e s n:Nat}{ys:List Value}(i:Nat)(hi:jO L i=some (.inr ⟨v,e,s,n,ys⟩))(h:∀A c,v=.slice A n c→aAp A n c s ys→G P X ops Q rest μ l L):G P X ops Q rest μ l L:=fun a w hs=>by
 obtain⟨A,c,h1,h2⟩:=hs.aDf hi;exact h A c h1 h2 a w hs
theorem iZ{k:Code}{v:Value}{e s n:Nat}{ys:List Value}(i:Nat)(hi:jO L i=some (.inr ⟨v,e,s,n,ys⟩))(h:∀A c,v=.slice A n c→aAp A n c s ys→GC P X k Q μ l L):GC P X k Q μ l L:=fun a w hs=>by
 obtain⟨A,c,h1,h2⟩:=hs.aDf hi;exact h A c h1 h2 a w hs
end
end
section
open Go.RowKit
section
variable{P:Program}{X:Ctx}{ops:Array Oper}{Q:Exit→Act→World→Prop}{rest:List Oper}{μ μr:Mem}{l:bG}{L Lr:List Bk}{a:Act}{w:World}{o:Oper}{d fuel i:Nat}{listed:Array Bool}
theorem VM{c:Exit}(e s:Nat)(h:GQ X Q c μ l (.inr ⟨.slice none 0 0,e,s,0,[]⟩::L)):GQ X Q c μ l L:=fun a w hs=>h a w (hs.kU e s)
end
section flat
variable{α:Type}{enc:α→List Value}{s:Nat}
theorem fP(he:∀x,(enc x).length=s)(l:List α):(l.flatMap enc).length=l.length*s:=by
 induction l with
 |nil=>simp
 |cons x l ih=>simp only[dA,aB,ih,he,aF,dK];omega
theorem PV(he:∀x,(enc x).length=s)(l:List α)(k:Nat):(l.flatMap enc).take (k*s)=(l.take k).flatMap enc:=by
 by_cases h:k≤l.length
 ·conv=>lhs;rw[←fC k l,aD]
  rw[List.take_append_of_le_length (by rw[fP he];simp[jY h]),dL (by rw[fP he];simp[jY h])]
 ·rw[dL (l:=l) (by omega),dL];rw[fP he];exact fS s (by omega)
theorem EW(he:∀x,(enc x).length=s)(l:List α)(k:Nat):(l.flatMap enc).drop (k*s)=(l.drop k).flatMap enc:=by
 by_cases h:k≤l.length
 ·conv=>lhs;rw[←fC k l,aD]
  have hl:((l.take k).flatMap enc).length=k*s:=by rw[fP he];simp[jY h]
  rw[←hl,List.drop_left]
 ·rw[cJ (l:=l) (by omega),cJ]
  ·rfl
  ·rw[fP he];exact fS s (by omega)
theorem ZU(he:∀x,(enc x).length=s){l:List α}{k:Nat}{x:α}(h:l[k]? =some x)(j:Nat)(v:Value)(hv:(enc x)[j]? =some v):(l.flatMap enc)[k*s+j]? =some v:=by
 have a:j<s:=by rw[←he x];exact(List.getElem?_eq_some_iff.1 hv).1
 have h1:=EW he l k;have h2:((l.flatMap enc).drop (k*s))[j]? =some v:=by rw[h1];have hk:k<l.length:=(List.getElem?_eq_some_iff.1 h).1;rw[iJ hk,(List.getElem?_eq_some_iff.1 h).2,dA,bY (by rw[he];exact a)];exact hv
 rw[eE]at h2;exact h2
theorem ZT(he:∀x,(enc x).length=s)(l:List α)(k:Nat)(x:α)(h:k<l.length):(l.flatMap enc).take (k*s)++enc x++(l.flatMap enc).drop (k*s+s)=(l.set k x).flatMap enc:=by
 rw[PV he,show k*s+s=(k+1)*s by rw[dK,mG],EW he,List.set_eq_take_append_cons_drop,if_pos h];simp
end flat
end
section
open Go.RowKit
section
variable{P:Program}{X:Ctx}{ops:Array Oper}{Q:Exit→Act→World→Prop}{rest:List Oper}{μ μr:Mem}{l:bG}{L Lr:List Bk}{a:Act}{w:World}{o:Oper}{d fuel i:Nat}{listed:Array Bool}
variable{ty:TypeId}{pos:String}{af:Array Edge}{gd:Option (Nat×Bool)}{ds:Option Nat}
theorem BN(w:World)(k:Nat)(t e:TypeId)(A:Option Addr)(n c:Nat)(ht:P.underlying t=some (.slice e)):(Op.equalIn (k+1) t (.slice A n c) (.slice none 0 0)).run P w=.ok A.isNone w:=by
 unfold Op.equalIn;cases A<;>simp[run_underlying ht]
theorem RH{p:Operand}{t t2 e:TypeId}{A:Option Addr}{n c:Nat}(ht:P.underlying t=some (.slice e))(b:ev l p=some (.slice A n c)):Val P μ l L ⟨ds,.binOp .eql t p (.const (.slice none 0 0)) t2,ty,pos,af,gd⟩ (.bool A.isNone):=fun a w hs=>by
 have e0:=hs.eval b;have e1:a.eval (.const (.slice none 0 0))=.slice none 0 0:=rfl;generalize a.eval=ρ at e0 e1;have h:=BN (P:=P) w 9999 t e A n c ht;simp[execOp,e0,e1,eqGuard,binOp,Op.equal,Op.maxDepth,h]
theorem IM{α:Type}{enc:α→List Value}{sz n:Nat}{μ:Mem}{l:List α}{x:Blk}(h:Bk.sh (.inl x) μ)(hn:l.length=n)(he:∀y∈l,(enc y).length=sz)(hc:LC x.cs 0 (n*sz) (l.flatMap enc)):Sl enc sz μ (some ⟨x.b,0,none⟩) n l:=by
 refine Sl.PF h hn (fun i y c j v a=>?_)
 have key:∀(xs:List α) (i:Nat) (x:α),(∀x∈xs,(enc x).length=sz)→xs[i]? =some x→∀j v,(enc x)[j]? =some v→(xs.flatMap enc)[i*sz+j]? =some v:=by
  intro xs;induction xs with
  |nil=>intro i x _ h;simp at h
  | cons y xs ih=>
    intro i x he hi j v a;have c:=he y (by simp);cases i with
    | zero=>
      simp at hi;subst hi;simp only[dA,jU,dT];rw[bY (List.getElem?_eq_some_iff.1 a).1];exact a
    | succ i=>
      simp only[dA];rw[bQ (by rw[c,dK];omega),c,show(i+1)*sz+j-sz=i*sz+j by rw[dK];omega];exact ih i x (fun z d=>he z (by simp[d])) (by simpa using hi) j v a
 simpa using hc.get _ v (key l i y he c j v a)
end
end
section
open Go.RowKit
section
variable{P:Program}{X:Ctx}{ops:Array Oper}{Q:Exit→Act→World→Prop}{rest:List Oper}{μ μr:Mem}{l:bG}{a:Act}{w:World}{o:Oper}{d fuel i:Nat}{listed:Array Bool}
theorem St.cells{L L' :List Bk}{i:Nat}{b t sz:Nat}{cs cs' :bG}(h:St X μ l L a w)(hi:jO L i=some (.inl ⟨b,t,sz,cs⟩))(hs:pN cs' cs)(hL:nQ L i (.inl ⟨b,t,sz,cs'⟩)=L'):St X μ l L' a w:=by
 rw[←hL];refine h.upd (w' :=w) hi rfl rfl rfl (aP _) (fun _ _ _=>rfl) ?_ (fun b hb=>.inl hb);obtain⟨arr,h1,h2,h3⟩:=h.own _ (fB hi);exact⟨arr,h1,h2,fun k v hk=>h3 k v (hs k v hk)⟩
theorem yA{c:Code}{b t sz:Nat}{cs:bG}{L:List Bk}(cs' :bG)(hs:pN cs' cs)(h:GC P X c Q μ l (.inl ⟨b,t,sz,cs'⟩::L)):GC P X c Q μ l (.inl ⟨b,t,sz,cs⟩::L):=fun a w d=>h a w (d.cells (i:=0) rfl hs rfl)
theorem PP{e:Exit}{b t sz:Nat}{cs:bG}{L:List Bk}(cs' :bG)(hs:pN cs' cs)(h:GQ X Q e μ l (.inl ⟨b,t,sz,cs'⟩::L)):GQ X Q e μ l (.inl ⟨b,t,sz,cs⟩::L):=fun a w c=>h a w (c.cells (i:=0) rfl hs rfl)
theorem tZ{e:Exit}{b t sz:Nat}{cs:bG}{y0 y1:Bk}{L:List Bk}(cs' :bG)(hs:pN cs' cs)(h:GQ X Q e μ l (y0::y1::.inl ⟨b,t,sz,cs'⟩::L)):GQ X Q e μ l (y0::y1::.inl ⟨b,t,sz,cs⟩::L):=fun a w c=>h a w (c.cells (i:=2) rfl hs rfl)
theorem EO{e:Exit}{b t sz:Nat}{cs:bG}{y0 y1 y2:Bk}{L:List Bk}(cs' :bG)(hs:pN cs' cs)(h:GQ X Q e μ l (y0::y1::y2::.inl ⟨b,t,sz,cs'⟩::L)):GQ X Q e μ l (y0::y1::y2::.inl ⟨b,t,sz,cs⟩::L):=fun a w c=>h a w (c.cells (i:=3) rfl hs rfl)
end
end
end Go.Vcg
namespace Go.Proofs.YtknieidhopbngaaGreat
end Go.Proofs.YtknieidhopbngaaGreat
