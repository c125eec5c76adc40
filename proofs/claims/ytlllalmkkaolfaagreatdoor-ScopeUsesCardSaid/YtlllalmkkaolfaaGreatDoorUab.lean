/- Rules for a statement whose order Go leaves open, over the symbolic state of YtlllalmkkaolfaaGreatDoorVc. -/
import Derived.Test.YtlllalmkkaolfaaGreatDoorUaa
set_option maxRecDepth 20000
namespace Go.Vcg
section
open Go.RowKit
def Sm(μ:Mem)(L:List Bk)(w:World):Prop:=MOk μ w∧∀x∈L,Bk.at x w
def GA(P:Program)(X:Ctx)(μr:Mem)(Lr:List Bk)(ops:Array Oper)(Q:Exit→Act→World→Prop)(fuel:Nat)(listed:Array Bool)(μ:Mem)(l:bS)(L:List Bk):Prop:=
 ∀a w,St X μ l L a w→Sm μr Lr w→wpAnyH P .any ops Q (Sm μr Lr) fuel listed a w
section
variable{P:Program}{X:Ctx}{ops:Array Oper}{Q:Exit→Act→World→Prop}{μ μr:Mem}{l:bS}{L Lr:List Bk}{a:Act}{w:World}{o:Oper}{d fuel i:Nat}{listed:Array Bool}
theorem St.draw(h:St X μ l L a w):St X μ l L a { w with drawn:=w.drawn+1 }:=
 ⟨h.size,h.defers,h.slots,⟨h.gX.os,h.gX.tape,h.gX.output,h.gX.size,h.gX.block⟩,h.mem,h.from0,h.fresh,fun x b=>Bk.gX (h.own x b) (fun _ _=>rfl),h.priv,h.new,h.diff⟩
theorem aZ{id:Nat}(n:Nat)(Lr:List Bk)(hm:P.follows .mixedOrders=true)(hn:ops.size=n)(hL:Lr.Sublist L)(h:GA P X μ Lr ops Q n (Array.replicate n false) μ l L):GC P X (.region id ops true) Q μ l L:=
 fun a _ hs=>wp_region_held hm (by subst hn;exact h a _ hs.draw ⟨hs.draw.mem,fun x b=>hs.draw.own x (hL.subset b)⟩)
theorem zO{i:Nat}(h:wY ops.toList i=some o):ops[i]? =some o:=by rw[aDt]at h;simpa using h
theorem aEa(i:Nat){v:Value}(ho:wY ops.toList i=some o)(hd:o.dst=some d)(hn:Nat.blt d X.n=true)(hw:iF ops l o=some true)(hs:Region.noSelect ops=true)(hf:Region.free .any ops listed i=true)
 (hr:(Region.ready .any ops listed).contains i=true)(hQ:∀c a w,Q (.panic c) (Act.put a (some d) v) w→Q (.panic c) a w)(hv:Val P μr l Lr o v)
 (h:GA P X μr Lr ops Q fuel (listed.setIfInBounds i true) μ ((d,v)::l) L):GA P X μr Lr ops Q (fuel+1) listed μ l L:=fun a w b f=>by
 refine wpAnyH_take (zO ho) hs hf hr (by rw[hd];exact hQ) (.inl ⟨b.wanted hw,fun w' e=>hv a w' ⟨b.slots,e.1,e.2⟩⟩) f ?_;rw[hd];exact h _ _ (b.put hn _) f
theorem aN9(i:Nat)(ho:wY ops.toList i=some o)(hd:o.dst=some d)(hn:Nat.blt d X.n=true)(hw:iF ops l o=some false)(hs:Region.noSelect ops=true)(hf:Region.free .any ops listed i=true)
 (hr:(Region.ready .any ops listed).contains i=true)(hQ:∀c a w,Q (.panic c) (Act.put a (some d) undef) w→Q (.panic c) a w)
 (h:GA P X μr Lr ops Q fuel (listed.setIfInBounds i true) μ ((d,undef)::l) L):GA P X μr Lr ops Q (fuel+1) listed μ l L:=fun a w b e=>by
 refine wpAnyH_take (v:=undef) (zO ho) hs hf hr (by rw[hd];exact hQ) (.inr ⟨b.wanted hw,rfl⟩) e ?_;rw[hd];exact h _ _ (b.put hn _) e
theorem aOa(hr:Region.ready .any ops listed=[])(h:GQ X Q .normal μ l L):GA P X μr Lr ops Q fuel listed μ l L:=fun a w b _=>wpAnyH_done hr (h a w b) _
def eV(P:Program)(X:Ctx)(μr:Mem)(Lr:List Bk)(ops:Array Oper)(Q:Exit→Act→World→Prop)(fuel:Nat)(listed:Array Bool)(i:Nat)(μ:Mem)(l:bS)(L:List Bk):Prop:=
 ∀a w,St X μ l L a w→Sm μr Lr w→wpOp P ops Q i (fun a' w' =>Sm μr Lr w' ∧wpAnyH P .any ops Q (Sm μr Lr) fuel (listed.setIfInBounds i true) a' w') a w
theorem aOc(i:Nat)(hr:Region.ready .any ops listed=[i])(h:eV P X μr Lr ops Q fuel listed i μ l L):GA P X μr Lr ops Q (fuel+1) listed μ l L:=fun a w b e=>by
 refine wpAnyH_all hr (by simp) fun j c=>?_;simp only[aJ]at c;subst c;exact h a w b e
theorem iZ(i j:Nat)(hr:Region.ready .any ops listed=[i,j])(h:eV P X μr Lr ops Q fuel listed i μ l L)(e:eV P X μr Lr ops Q fuel listed j μ l L):GA P X μr Lr ops Q (fuel+1) listed μ l L:=fun a w b c=>by
 refine wpAnyH_all hr (by simp) fun k hk=>?_;simp only[aR,List.not_mem_nil,or_false]at hk;rcases hk with rfl|rfl
 ·exact h a w b c
 ·exact e a w b c
theorem aOb(i j k:Nat)(hr:Region.ready .any ops listed=[i,j,k])(h:eV P X μr Lr ops Q fuel listed i μ l L)(f:eV P X μr Lr ops Q fuel listed j μ l L)(e:eV P X μr Lr ops Q fuel listed k μ l L):GA P X μr Lr ops Q (fuel+1) listed μ l L:=fun a w b c=>by
 refine wpAnyH_all hr (by simp) fun m hm=>?_;simp only[aR,List.not_mem_nil,or_false]at hm;rcases hm with rfl|rfl|rfl
 ·exact h a w b c
 ·exact f a w b c
 ·exact e a w b c
theorem aUk{i:Nat}(ho:wY ops.toList i=some o)(hw:iF ops l o=some true)
 (h:∀a w,St X μ l L a w→Sm μr Lr w→o.wp P a w (fun a' w' =>Sm μr Lr w' ∧wpAnyH P .any ops Q (Sm μr Lr) fuel (listed.setIfInBounds i true) a' w') Q):eV P X μr Lr ops Q fuel listed i μ l L:=fun a w b c=>by
 unfold wpOp;simp only[zO ho,b.wanted hw,if_true];exact .inl (h a w b c)
theorem aGx{i:Nat}(ho:wY ops.toList i=some o)(hd:o.dst=some d)(hn:Nat.blt d X.n=true)(hw:iF ops l o=some false)
 (h:GA P X μr Lr ops Q fuel (listed.setIfInBounds i true) μ ((d,undef)::l) L):eV P X μr Lr ops Q fuel listed i μ l L:=fun a w b c=>by
 unfold wpOp;simp only[zO ho,b.wanted hw,Bool.false_eq_true,if_false,hd];exact⟨c,h _ _ (b.put hn _) c⟩
theorem jU{i:Nat}{v:Value}(ho:wY ops.toList i=some o)(hd:o.dst=some d)(hn:Nat.blt d X.n=true)(hw:iF ops l o=some true)(hv:Val P μ l L o v)
 (h:GA P X μr Lr ops Q fuel (listed.setIfInBounds i true) μ ((d,v)::l) L):eV P X μr Lr ops Q fuel listed i μ l L:=
 aUk ho hw fun a w hs b=>by unfold Oper.wp;rw[hv a w hs.rd,Oper.upon_value,hd];exact⟨b,h _ _ (hs.put hn _) b⟩
theorem aJ7{t:Nat}{b:Bool}(hl:lk l t=some (.bool b))(ht:b=true→GA P X μr Lr ops Q fuel listed μ ((t,.bool true)::l) L)(hf:b=false→GA P X μr Lr ops Q fuel listed μ ((t,.bool false)::l) L):GA P X μr Lr ops Q fuel listed μ l L:=by
 intro a w hs g;have c:=hs.slots t _ hl;have hn:Nat.blt t X.n=true:=by have:=(Array.getElem?_eq_some_iff.1 c).1;rw[hs.size]at this;simp[Nat.blt];omega
 have he:a.put (some t) (.bool b)=a:=by
  cases a;simp only[Act.put,Act.mk.injEq,and_true]at*;exact jJ fun i=>by
   by_cases e:t=i
   ·subst e;rw[cT (Array.getElem?_eq_some_iff.1 c).1,c]
   ·rw[dH e]
 have f:=hs.put hn (.bool b);rw[he]at f;cases b
 ·exact hf rfl a w f g
 ·exact ht rfl a w f g
theorem aJ8(i:Nat){t:Nat}{b:Bool}(_ho:wY ops.toList i=some o)(_hg:BX ops o=some t)(hl:lk l t=some (.bool b))(_hb:PD b)(ht:b=true→GA P X μr Lr ops Q fuel listed μ ((t,.bool true)::l) L)
 (hf:b=false→GA P X μr Lr ops Q fuel listed μ ((t,.bool false)::l) L):GA P X μr Lr ops Q fuel listed μ l L:=aJ7 hl ht hf
end
end
section
open Go.RowKit
section
variable{P:Program}{X:Ctx}{ops:Array Oper}{Q:Exit→Act→World→Prop}{rest:List Oper}{μ:Mem}{l:bS}{L:List Bk}{a:Act}{w:World}{o:Oper}
variable{d:Nat}{ty:TypeId}{pos:String}{af:Array Edge}{gd:Option (Nat×Bool)}
def aRp{α:Type}(x:Nat)(k:Nat→α):α:=match x with
 |0=>k 0|1=>k 1|2=>k 2|4=>k 4|8=>k 8|16=>k 16|24=>k 24|32=>k 32|40=>k 40|48=>k 48|56=>k 56|64=>k 64|72=>k 72|80=>k 80|88=>k 88|96=>k 96|104=>k 104|112=>k 112|120=>k 120|128=>k 128|n=>k n
theorem aNa{α:Type}(x:Nat)(k:Nat→α):aRp x k=k x:=by
 unfold aRp;split<;>rfl
def EI(P:Program)(t:TypeId):Option Nat:=match P.info? t with|some i=>aRp i.bytes some|none=>none
def Src(μ:Mem)(l:bS)(L:List Bk)(x:Operand)(m:Nat)(news:List Value):Prop:=
 ∃A c,ev l x=some (.slice A m c)∧(A=none→m=0∧news=[])∧∀ad,A=some ad→∀a w,Rd μ l L a w→∀j u,news[j]? =some u→w.cell? (ad.add j)=some u
theorem St.TQ(h:St X μ l L a w){v' :Value}{w' :World}{e:TypeId}{s n:Nat}{xs:List Value}(hr:w'.ownsRow 0 e s v' n xs)(hg:w.grownBy w' none)(hb:∀b,v'.ownBlock=some b→w.heap.size≤b):
 St X μ l (.inr ⟨v',e,s,n,xs⟩::L) a w' :=by
 have g:Below w.heap.size w w' :=⟨hg.os,hg.tape,hg.output,hg.size,fun b hb=>hg.block b hb (by simp)⟩;have h1:=h.EG g;have q:∀b,w.heap.size≤b→μ b=none:=fun b hb=>by
  cases hm:μ b with
  |none=>rfl
  | some o=>
    have:=(Array.getElem?_eq_some_iff.1 (h.mem _ _ hm)).1;omega
 refine⟨h1.size,h1.defers,h1.slots,h1.gX,h1.mem,h1.from0,h1.fresh,fun x c=>?_,fun x c b f=>?_,fun x c b f=>?_,List.pairwise_cons.2 ⟨fun y p b j i=>?_,h1.diff⟩⟩
 ·rcases aR.1 c with rfl|c
  ·exact hr
  ·exact h1.own x c
 ·rcases aR.1 c with rfl|c
  ·exact q b (hb b f)
  ·exact h1.priv x c b f
 ·rcases aR.1 c with rfl|c
  ·exact .inr (dU h.gX.size (hb b f))
  ·exact h1.new x c b f
 ·have:=hb b j;have:=Bk.lt (h.own y p) i;omega
theorem zF{t e:TypeId}{s bytes:Nat}{z:Value}(ht:P.underlying t=some (.slice e))(hs:jN P e=some s)(p:oL P e=some z)(o:z.cells.toList.length=s)(f:EI P e=some bytes)(l:0<s)
 {v:Value}{n:Nat}{xs:List Value}(a:w.ownsRow 0 e s v n xs){A:Option Addr}{m c:Nat}{news:List Value}(hl:news.length=m*s)(h0:A=none→m=0∧news=[])(hc:∀ad,A=some ad→∀j u,news[j]? =some u→w.cell? (ad.add j)=some u)
 (h1:∀u∈news,u.oneCell' =true)(b:(n+m)*bytes≤140737488355328)(hlen:n+m≤140737488355328):
 ∃v' w',(Builtin.append_ #[t,t] ty #[v,.slice A m c]).run P w=.ok v' w' ∧w'.ownsRow 0 e s v' (n+m) (xs++news)∧w.grownBy w' v.ownBlock∧(v'.ownBlock=v.ownBlock∨v'.ownBlock=some w.heap.size):=by
 unfold jN at hs;unfold oL at p;unfold EI at f;cases hi:P.info? e with
 |none=>simp[hi]at hs
 | some i=>
   simp[hi,zQ]at hs;simp[hi]at p;simp[hi,aNa]at f;rcases A with _|ad
   ·obtain⟨rfl,rfl⟩:=h0 rfl;have h:(Builtin.append_ #[t,t] ty #[v,.slice none 0 c]).run P w=.ok v w:=by
     rcases a.2 with⟨rfl,rfl⟩|⟨g,cap,cur,rfl,_,_,q,_⟩
     ·simp[Builtin.append_,run_underlying ht,sizeOf,typeInfo,hi,Builtin.lenOf,Builtin.firstCells]
     ·simp[Builtin.append_,run_underlying ht,sizeOf,typeInfo,hi,Builtin.lenOf,Builtin.firstCells,q,storeCells]
    exact⟨v,w,h,by simpa using a,World.grownBy.refl w _,.inl rfl⟩
   ·obtain⟨v',w',r1,r2,r3,_,r5⟩:=run_append_own_at (P:=P) w 0 t ty e i z s bytes ht hi p hs f (by simpa using o) l v n xs a ad m c news hl (hc ad rfl) h1 (by simp only[maxLen];omega) b (aN _);exact⟨v',w',r1,r2,r3,r5⟩
theorem yR{p q:Operand}{t:TypeId}{v x v' :Value}{w' :World}{ρ:Operand→Value}{ds:Option Nat}(a:ρ p=v)(hq:ρ q=x)(hr:(Builtin.append_ #[t,t] ty #[v,x]).run P w=.ok v' w'):
 (execOp ρ ⟨ds,.call { callee:=.builtin .append,args:= #[p,q],argTypes:= #[t,t] },ty,pos,af,gd⟩).run P w=.ok (.value v') w' :=by
 simp only[execOp,resolve,invoke,builtin,Sem.run_bind,Sem.run_pure,Result.andThen_ok,List.map_toArray,aL,iR,a,hq,hr]
theorem RP{p q:Operand}{t e:TypeId}{s bytes m:Nat}{z:Value}{news:List Value}(hn:Nat.blt d X.n=true)(hw:iF ops l ⟨some d,.call { callee:=.builtin .append,args:= #[p,q],argTypes:= #[t,t] },ty,pos,af,gd⟩=some true)
 (ht:P.underlying t=some (.slice e))(hs:jN P e=some s)(x:oL P e=some z)(o:z.cells.toList.length=s)(r:EI P e=some bytes)(j:Nat.blt 0 s=true)(y:ev l p=some (.slice none 0 0))
 (i:Src μ l L q m news)(hl:news.length=m*s)(h1:∀u∈news,u.oneCell' =true)(g:m*bytes≤140737488355328)(hlen:m≤140737488355328)
 (h:∀v,G P X ops Q rest μ ((d,v)::l) (.inr ⟨v,e,s,m,news⟩::L)):
 G P X ops Q (⟨some d,.call { callee:=.builtin .append,args:= #[p,q],argTypes:= #[t,t] },ty,pos,af,gd⟩::rest) μ l L:=
 AH hw fun a w f=>by
  obtain⟨A,c,hq,h0,hc⟩:=i;obtain⟨v',w',r1,r2,r3,r4⟩:=zF (P:=P) (ty:=ty) (w:=w) (t:=t) ht hs x o r (by simpa using j) (v:=.slice none 0 0) (n:=0) (xs:=[]) ⟨by simp,.inl ⟨rfl,rfl⟩⟩ (c:=c) hl h0 (fun ad e=>hc ad e a w f.rd) h1 (by simpa using g) (by simpa using hlen);unfold Oper.wp;rw[yR (f.eval y) (f.eval hq) r1,Oper.upon_value];refine h v' _ _ (St.put (f.TQ (by simpa using r2) r3 (fun b hb=>?_)) hn _);rcases r4 with r4|r4
  ·rw[r4]at hb;simp[Value.ownBlock]at hb
  ·rw[r4]at hb;cases hb;exact aC _
theorem ZB{p q:Operand}{t:TypeId}{s bytes m:Nat}{z:Value}{news:List Value}{r:Rw}(i:Nat)(hn:Nat.blt d X.n=true)(hw:iF ops l ⟨some d,.call { callee:=.builtin .append,args:= #[p,q],argTypes:= #[t,t] },ty,pos,af,gd⟩=some true)
 (hi:iI L i=some (.inr r))(ht:P.underlying t=some (.slice r.e))(hs:jN P r.e=some s)(x:r.s=s)(hz:oL P r.e=some z)(ab:z.cells.toList.length=s)(ae:EI P r.e=some bytes)(aa:Nat.blt 0 s=true)(hp:ev l p=some r.v)
 (o:Src μ l L q m news)(hl:news.length=m*s)(h1:∀u∈news,u.oneCell' =true)(j:(r.n+m)*bytes≤140737488355328)(hlen:r.n+m≤140737488355328)
 (h:∀v,G P X ops Q rest μ ((d,v)::l) (fT L i (.inr ⟨v,r.e,r.s,r.n+m,r.xs++news⟩))):
 G P X ops Q (⟨some d,.call { callee:=.builtin .append,args:= #[p,q],argTypes:= #[t,t] },ty,pos,af,gd⟩::rest) μ l L:=
 AH hw fun a w f=>by
  obtain⟨A,c,hq,h0,hc⟩:=o;have g:w.ownsRow 0 r.e r.s r.v r.n r.xs:=f.own _ (fB hi);rw[x]at g;obtain⟨v',w',r1,r2,r3,r4⟩:=zF (P:=P) (ty:=ty) (w:=w) (t:=t) ht hs hz ab ae (by simpa using aa) g (c:=c) hl h0 (fun ad e=>hc ad e a w f.rd) h1 j hlen;unfold Oper.wp;rw[yR (f.eval hp) (f.eval hq) r1,Oper.upon_value];refine h v' _ _ (St.put (f.upd hi r3.os r3.tape r3.output r3.size (fun b hb hne=>r3.block b hb (fun e=>hne e.symm)) (y:=.inr ⟨v',r.e,r.s,r.n+m,r.xs++news⟩) (by rw[←x]at r2;exact r2) (fun b hb=>?_)) hn _);rcases r4 with r4|r4
  ·exact .inl (r4.symm.trans hb)
  ·have:v'.ownBlock=some b:=hb;rw[r4]at this;cases this;exact .inr (aC _)
theorem aMu{q:Operand}{y:Blk}{m c:Nat}{news:List Value}(i:Nat)(hi:iI L i=some (.inl y))(hq:ev l q=some (.slice (some ⟨y.b,0,none⟩) m c))(hc:LC y.cs 0 y.sz news):Src μ l L q m news:=
 ⟨_,_,hq,(fun h=>by cases h),fun ad e a w hr j u hu=>by
   cases e;rw[add_lit];exact hr.cell (fB hi) (hc.get j u hu)⟩
theorem aAo{α:Type}{enc:α→List Value}{sz m c:Nat}{q:Operand}{A:Option Addr}{xs:List α}(hq:ev l q=some (.slice A m c))(h:Sl enc sz μ A m xs)(he:∀x∈xs,(enc x).length=sz):Src μ l L q m (xs.flatMap enc):=by
 refine⟨A,c,hq,fun e=>?_,fun ad e a w hr j u hu=>?_⟩
 ·have hm:m=0:=by
   rcases Nat.eq_zero_or_pos m with h0|h0
   ·exact h0
   ·obtain⟨ad,e',_⟩:=h.2 h0;rw[e]at e';cases e'
  exact⟨hm,by rw[bV (h.1.trans hm)];rfl⟩
 ·have key:∀(xs:List α) (k:Nat),(∀x∈xs,(enc x).length=sz)→(∀i x,xs[i]? =some x→gF μ (ad.add ((k+i)*sz)) (enc x))→∀j u,(xs.flatMap enc)[j]? =some u→qD μ (ad.add (k*sz+j)) u:=by
   intro xs;induction xs with
   |nil=>intro k _ _ j u hu;simp at hu
   | cons x xs ih=>
     intro k he hc j u hu;have f:=he x (by simp);simp only[bU]at hu;by_cases g:j<sz
     ·rw[aV (by omega)]at hu;exact(by simpa using hc 0 x rfl:gF μ (ad.add (k*sz)) (enc x)).at j hu
     ·rw[aP (by omega),f]at hu;have:=ih (k+1) (fun y b=>he y (by simp[b])) (fun i y b=>by rw[show k+1+i=k+ (i+1)by omega];exact hc (i+1) y (by simpa using b)) (j-sz) u hu;rw[eI,oP,show k*sz+sz+ (j-sz)=k*sz+j by omega]at this;exact this
  have hm:0<m:=by
   rcases Nat.eq_zero_or_pos m with h0|h0
   ·have:xs=[]:=bV (h.1.trans h0);subst this;simp at hu
   ·exact h0
  obtain⟨ad',e',hc⟩:=h.2 hm;rw[e]at e';cases e';have:=key xs 0 he (fun i x f=>by simpa using hc i x f) j u hu;simp only[kS,bG]at this;exact hr.aI9 this
theorem aE3{p:Operand}{t e:TypeId}{ds:Option Nat}{r:Rw}(i:Nat)(ht:P.underlying t=some (.slice e))(hi:iI L i=some (.inr r))(f:ev l p=some r.v):
 Val P μ l L ⟨ds,.call { callee:=.builtin .len,args:= #[p],argTypes:= #[t] },ty,pos,af,gd⟩ (.int .i64 r.n):=fun a w hs=>by
 have e0:=hs.eval f;have b:w.ownsRow 0 r.e r.s r.v r.n r.xs:=hs.own _ (fB hi);obtain⟨A,c,hv⟩:∃A c,r.v=.slice A r.n c:=by
  rcases b.2 with⟨h1,h2⟩|⟨g,cap,cur,h1,_⟩
  ·exact⟨none,0,by rw[h1,h2]⟩
  ·exact⟨_,_,h1⟩
 rw[hv]at e0;generalize a.eval=ρ at e0;simp[execOp,e0,resolve,invoke,builtin,Builtin.len_,run_underlying ht,goInt]
theorem Rw.sl{α:Type}{enc:α→List Value}{r:Rw}{xs:List α}(h:Bk.sh (.inr r) μ)(hn:xs.length=r.n)(he:∀x∈xs,(enc x).length=r.s)(l:r.xs=xs.flatMap enc):∃A c,r.v=.slice A r.n c∧Sl enc r.s μ A r.n xs∧c≤maxLen:=by
 rcases h.2 with⟨h1,h2⟩|⟨g,cap,cur,h1,h2,h3,h4,h5,h6⟩
 ·exact⟨none,0,by rw[h1,h2],⟨hn,fun h=>by omega⟩,by simp⟩
 ·refine⟨_,_,h1,⟨hn,fun _=>⟨_,rfl,fun i x hi=>?_⟩⟩,h4⟩;rw[l]at h6
  have key:∀(xs:List α) (i:Nat) (x:α),(∀x∈xs,(enc x).length=r.s)→xs[i]? =some x→∀j v,(enc x)[j]? =some v→(xs.flatMap enc)[i*r.s+j]? =some v:=by
   intro xs;induction xs with
   |nil=>intro i x _ h;simp at h
   | cons y xs ih=>
     intro i x he hi j v a;have b:=he y (by simp);cases i with
     | zero=>
       simp at hi;subst hi;simp only[bU,kS,bG];rw[aV (List.getElem?_eq_some_iff.1 a).1];exact a
     | succ i=>
       simp only[bU];rw[aP (by rw[b,eI];omega),b,show(i+1)*r.s+j-r.s=i*r.s+j by rw[eI];omega];exact ih i x (fun z f=>he z (by simp[f])) (by simpa using hi) j v a
  intro j v a;have hk:=key xs i x he hi j v a;rw[oD,add_lit];refine⟨cur,r.e,(0,0),h2,rfl,?_⟩;rw[←h6,eH]at hk;split at hk
  ·simpa using hk
  ·cases hk
theorem St.xY(h:St X μ l L a w)(e s:TypeId):St X μ l (.inr ⟨.slice none 0 0,e,s,0,[]⟩::L) a w:=
 h.TQ ⟨by simp,.inl ⟨rfl,rfl⟩⟩ (World.grownBy.refl w _) (fun b hb=>by simp[Value.ownBlock]at hb)
theorem St.aCv{b t n s:Nat}{cs:bS}{xs:List Value}(h:St X μ l (.inl ⟨b,t,n*s,cs⟩::L) a w)(hc:LC cs 0 (n*s) xs)(hn:n≤maxLen):St X μ l (.inr ⟨.slice (some ⟨b,0,none⟩) n n,t,s,n,xs⟩::L) a w:=by
 obtain⟨arr,h1,h2,h3⟩:=h.own _ (List.Mem.head _);have g:w.heap[b]? =some (.cells arr t (0,0)):=h1;have f:arr.size=n*s:=h2;have c:w.ownsRow 0 t s (.slice (some ⟨b,0,none⟩) n n) n xs:=by
  refine⟨hc.len,.inr ⟨b,n,arr,rfl,aN _,g,aC _,hn,f,?_⟩⟩;apply eP;intro i;rw[eH];by_cases hi:i<n*s
  ·have hlt:i<xs.length:=by rw[hc.len];exact hi
   have j:xs[i]? =some xs[i]:=aA hlt;have:=h3 i _ (by simpa using hc.get i _ j);rw[if_pos hi,j];simpa using this
  ·rw[if_neg hi,dQ (by rw[hc.len];omega)]
 have:=h.upd (i:=0) (x:=.inl ⟨b,t,n*s,cs⟩) (y:=.inr ⟨.slice (some ⟨b,0,none⟩) n n,t,s,n,xs⟩) rfl rfl rfl rfl (aC _) (fun _ _ _=>rfl) c (fun b' e=>.inl e);exact this
def sZ(w:World)(e:TypeId)(s n:Nat)(xs:List Value)(en:Ending)(w' :World):Prop:=∃v,en=.returned v∧w'.ownsRow w.heap.size e s v n xs∧Below w.heap.size w w'
theorem qI{fn:Func}{t n e s m:Nat}{v:Value}{μ0:Mem}{xs:List Value}(i:Nat)(hr:fn.results= #[.tmp t])(hv:lk l t=some v)(hi:iI L i=some (.inr ⟨v,e,s,m,xs⟩)):
 GQ ⟨w,μ0,[],n⟩ (bodyPost P fn (sZ w e s m xs)) .ret μ l L:=fun a w' hs=>by
 have h1:=hs.slots _ _ hv;have hm:=fB hi;have b:w'.ownsRow 0 e s v m xs:=hs.own _ hm;refine⟨hs.defers.none (by simp),v,by simp[results,hr,h1],v,rfl,⟨b.1,b.2.imp (fun h=>h) ?_⟩,hs.gX.below⟩;rintro⟨g,cap,cur,c,_,h3⟩;refine⟨g,cap,cur,c,?_,h3⟩;rcases hs.new _ hm g (by simp[Bk.id,c,Value.ownBlock])with h4|h4
 ·simp at h4
 ·exact h4
theorem St.aG9(h:St X μ l L a w){v:Value}{w' :World}{e:TypeId}{s n:Nat}{xs:List Value}(hr:w'.ownsRow w.heap.size e s v n xs)(hb:Below w.heap.size w w'):St X μ l (.inr ⟨v,e,s,n,xs⟩::L) a w' :=by
 refine h.TQ ⟨hr.1,hr.2.imp (fun h=>h) ?_⟩ ⟨hb.os,hb.tape,hb.output,hb.size,fun b c _=>hb.block b c⟩ (fun b c=>?_)
 ·rintro⟨g,cap,cur,f,_,h3⟩;exact⟨g,cap,cur,f,aN _,h3⟩
 ·rcases hr.2 with⟨h1,_⟩|⟨g,cap,cur,f,h4,_⟩
  ·rw[h1]at c;simp[Value.ownBlock]at c
  ·rw[f]at c;simp[Value.ownBlock]at c;omega
theorem JA{f:FuncId}{vs:Array Value}{e s n:Nat}{xs:List Value}(hd:o.dst=some d)(hn:Nat.blt d X.n=true)(hw:iF ops l o=some true)
 (hr:Ent P μ l L o f vs)(hc:∀w μc,MOk μc w→PQ μc μ L→Calls P f vs w (sZ w e s n xs))
 (h:∀v,G P X ops Q rest μ ((d,v)::l) (.inr ⟨v,e,s,n,xs⟩::L)):G P X ops Q (o::rest) μ l L:=
 AH hw fun a w hs=>by
  unfold Oper.wp;rw[hr a w hs.rd,Oper.upon_enter];refine(hc w _ (fun _ _ h=>h) hs.aTq).mono fun en w' he=>?_;obtain⟨v,rfl,h1,h2⟩:=he;show wpList P ops Q rest (a.put o.dst v) w'
  rw[hd];exact h v _ _ ((hs.aG9 h1 h2).put hn _)
theorem St.aMx(h:St X μ l L a w){i:Nat}{r:Rw}(hi:iI L i=some (.inr r))(hn:0<r.n):∃g cap,r.v=.slice (some ⟨g,0,none⟩) r.n cap∧r.n≤cap:=by
 have b:w.ownsRow 0 r.e r.s r.v r.n r.xs:=h.own _ (fB hi);rcases b.2 with⟨_,h2⟩|⟨g,cap,cur,h1,_,_,h4,_⟩
 ·omega
 ·exact⟨g,cap,h1,h4⟩
theorem mP{v:Value}{e s n:Nat}{ys:List Value}(i:Nat)(hi:iI L i=some (.inr ⟨v,e,s,n,ys⟩))(hn:0<n)(h:∀g cap,v=.slice (some ⟨g,0,none⟩) n cap→n≤cap→G P X ops Q rest μ l L):G P X ops Q rest μ l L:=fun a w hs=>by
 obtain⟨g,cap,h1,h2⟩:=hs.aMx hi hn;exact h g cap h1 h2 a w hs
theorem tM{α:Type}{enc:α→List Value}{v:Value}{e s n:Nat}{ys:List Value}{xs:List α}(h:Bk.sh (.inr ⟨v,e,s,n,ys⟩) μ)(hn:xs.length=n)(he:∀x∈xs,(enc x).length=s)(a:ys=xs.flatMap enc):∃A c,v=.slice A n c∧Sl enc s μ A n xs:=by
 obtain⟨A,c,h1,h2,_⟩:=Rw.sl (enc:=enc) h hn he a;exact⟨A,c,h1,h2⟩
theorem fK{α:Type}{enc:α→List Value}{A:Option Addr}{n c e s:Nat}{ys:List Value}{xs:List α}(h:Bk.sh (.inr ⟨.slice A n c,e,s,n,ys⟩) μ)(hn:xs.length=n)(he:∀x∈xs,(enc x).length=s)(a:ys=xs.flatMap enc):Sl enc s μ A n xs:=by
 obtain⟨A',c',h1,h2,_⟩:=Rw.sl (enc:=enc) h hn he a;cases h1;exact h2
theorem Rd.TL(h:Rd μ l L a w){g n cap off:Nat}{e s:TypeId}{xs:List Value}{v:Value}(hm: .inr ⟨.slice (some ⟨g,0,none⟩) n cap,e,s,n,xs⟩∈L)(hv:xs[off]? =some v):w.cell? ⟨g,off,none⟩=some v:=by
 have b:w.ownsRow 0 e s (.slice (some ⟨g,0,none⟩) n cap) n xs:=h.own _ hm;rcases b.2 with⟨h1,_⟩|⟨g',cap',cur,h1,_,h2,_,_,_,h6⟩
 ·cases h1
 ·cases h1;rw[←h6,eH]at hv;split at hv
  ·simpa[World.cell?,h2]using hv
  ·cases hv
theorem qK{x:Operand}{v:Value}{t:TypeId}{ds:Option Nat}{g n cap off:Nat}{e s:TypeId}{xs:List Value}(i:Nat)(a:pN P t=some false)
 (hi:iI L i=some (.inr ⟨.slice (some ⟨g,0,none⟩) n cap,e,s,n,xs⟩))(b:ev l x=some (.pointer (some (Addr.add ⟨g,0,none⟩ off))))(hv:xs[off]? =some v):Val P μ l L ⟨ds,.load t x,ty,pos,af,gd⟩ v:=
 GY b (fun _ _ hs=>uO a (by rw[add_lit,bG];exact hs.TL (fB (i:=i) hi) hv))
theorem tA{x:Operand}{t:TypeId}{ds:Option Nat}{g n cap off k:Nat}{e s:TypeId}{xs vs:List Value}(i:Nat)(b:pN P t=some true)(a:jN P t=some k)
 (hi:iI L i=some (.inr ⟨.slice (some ⟨g,0,none⟩) n cap,e,s,n,xs⟩))(c:ev l x=some (.pointer (some (Addr.add ⟨g,0,none⟩ off))))(hl:vs.length=k)(hv:∀j v,vs[j]? =some v→xs[off+j]? =some v):Val P μ l L ⟨ds,.load t x,ty,pos,af,gd⟩ (.agg vs.toArray):=
 GY c (fun _ _ hs=>vU vs b (by rw[hl];exact a) (fun j v f=>by rw[oD,add_lit,bG];exact hs.TL (fB (i:=i) hi) (hv j v f)))
theorem NQ(l vs:List Value)(off i:Nat)(h:off+vs.length≤l.length):(l.take off++vs++l.drop (off+vs.length))[i]? =if i<off then l[i]? else if i<off+vs.length then vs[i-off]? else l[i]? :=by
 have h1:(l.take off).length=off:=by simp;omega
 by_cases a:i<off
 ·rw[if_pos a,bA,aV (by omega),eH,if_pos a]
 ·rw[if_neg a];by_cases b:i<off+vs.length
  ·rw[if_pos b,bA,aP (by omega),aV (by omega),h1]
  ·rw[if_neg b,aP (by simp;omega),fP];congr 1;simp;omega
theorem SX{cur xs vs:List Value}{k off:Nat}(h:cur.take k=xs)(ho:off+vs.length≤xs.length):
 (cur.take off++vs++cur.drop (off+vs.length)).take k=xs.take off++vs++xs.drop (off+vs.length):=by
 have hl:xs.length=min k cur.length:=by rw[←h];simp
 apply eP;intro i;rw[eH,NQ _ _ _ _ (by omega),NQ _ _ _ _ ho];by_cases hi:i<k
 ·have e:xs[i]? =cur[i]? :=by rw[←h,eH,if_pos hi]
  rw[if_pos hi,e]
 ·have e:xs[i]? =none:=by rw[←h,eH,if_neg hi]
  rw[if_neg hi,if_neg (by omega),if_neg (by omega),e]
theorem oT{x q:Operand}{t:TypeId}{off n g cap m e s:Nat}{xs:List Value}{v:Value}(i:Nat)(hw:iF ops l ⟨none,.store t q x,ty,pos,af,gd⟩=some true)(p:jN P t=some n)
 (hi:iI L i=some (.inr ⟨.slice (some ⟨g,0,none⟩) m cap,e,s,m,xs⟩))(hq:ev l q=some (.pointer (some (Addr.add ⟨g,0,none⟩ off))))(hx:ev l x=some v)(hlen:v.cells.toList.length=n)(hone:v.cells.toList.all (·.oneCell')=true)
 (o:off+n≤xs.length)
 (h:G P X ops Q rest μ l (fT L i (.inr ⟨.slice (some ⟨g,0,none⟩) m cap,e,s,m,xs.take off++v.cells.toList++xs.drop (off+n)⟩))):G P X ops Q (⟨none,.store t q x,ty,pos,af,gd⟩::rest) μ l L:=
 AH hw fun a w hs=>by
  have e0:=hs.eval hq;have e1:=hs.eval hx;rw[add_lit,bG]at e0;have c:w.ownsRow 0 e s (.slice (some ⟨g,0,none⟩) m cap) m xs:=hs.own _ (fB hi);rcases c.2 with⟨h1,_⟩|⟨g',cap',cur,h1,ab,u,h3,h4,h5,h6⟩
  ·cases h1
  cases h1;have aa:xs.length≤cur.size:=by rw[←h6];simp;omega
  have j:=run_storeCells_at (P:=P) g off e v.cells.toList 0 cur w u (by rw[hlen];omega) (eJ.1 hone);have f:(Instr.storeAt t (.pointer (some ⟨g,off,none⟩)) v).run P w=.ok () (w.setRow g (cur.toList.take (off+0)++v.cells.toList++cur.toList.drop (off+0+v.cells.toList.length)).toArray):=by
   have r:¬v.cells.size≠n:=by simpa using hlen
   simp only[Instr.storeAt,Instr.sureAddr,storeVar,Sem.run_bind,Sem.run_pure,Result.andThen_ok,run_sizeOf p,if_neg r];exact j
  unfold Oper.wp;generalize z:a.eval=ρ at e0 e1;have hex:(execOp ρ ⟨none,.store t q x,ty,pos,af,gd⟩).run P w=.ok .skip (w.setRow g (cur.toList.take (off+0)++v.cells.toList++cur.toList.drop (off+0+v.cells.toList.length)).toArray):=by simp only[execOp,e0,e1,Sem.run_bind,f,Result.andThen_ok];rfl
  rw[hex,Oper.upon_skip];simp only[bZ]at*;refine h _ _ ((hs.upd (w' :=w.setRow g (cur.toList.take off++v.cells.toList++cur.toList.drop (off+v.cells.toList.length)).toArray) hi rfl rfl rfl (by simp) (fun b _ hb=>setRow_other w g b _ (fun e=>hb (by rw[e];rfl))) (y:=.inr ⟨.slice (some ⟨g,0,none⟩) m cap,e,s,m,xs.take off++v.cells.toList++xs.drop (off+n)⟩) ?_ (fun b hb=>.inl hb)).WZ _);refine⟨?_,.inr ⟨g,cap,_,rfl,aN _,setRow_heap w g cur _ e (0,0) u,h3,h4,?_,?_⟩⟩
  ·have:=c.1;simp only[aI,cM,dA,hlen];show _=m*s
   rw[←this];omega
  ·simp only[List.size_toArray,aI,cM,dA,hlen,gV];rw[←h5];omega
  ·have:=SX (vs:=v.cells.toList) h6 (by rw[hlen];exact o);rw[hlen]at this⊢;simpa using this
end
section drawn
variable{P:Program}{X:Ctx}{ops:Array Oper}{Q:Exit→Act→World→Prop}{μ μr:Mem}{l:bS}{L:List Bk}{a:Act}{w:World}{o:Oper}{d fuel i:Nat}{listed:Array Bool}
variable{ty:TypeId}{pos:String}{af:Array Edge}{gd:Option (Nat×Bool)}
end drawn
end
section
open Go.RowKit
section
variable{P:Program}{μ:Mem}{l:bS}{L:List Bk}{w:World}{ds:Option Nat}{ty:TypeId}{pos:String}{af:Array Edge}{gd:Option (Nat×Bool)}
def codeOf:Value→Nat
 |.string _=>0
 |.bool _=>1
 |.int _ _=>2
 |_=>3
def JF(P:Program)(f:Field):Nat:=match P.underlying f.type with
 |some .string=>0
 |some .bool=>1
 |some (.int _)=>2
 |_=>4
def nJ(P:Program):Nat→List Field→List Nat→Bool
 |_,[],[]=>true
 |k,f::fs,c::cs=> !(f.name== "_")&&Nat.beq f.offset k&&Nat.beq (JF P f) c&&nJ P (k+1) fs cs
 |_,_,_=>false
def okV:Value→Value→Bool
 |.string _,.string _=>true
 |.bool _,.bool _=>true
 |.int k _,.int k' _=>decide (k=k')
 |_,_=>false
def eqV:Value→Value→Bool
 |.string a,.string b=>decide (a=b)
 |.bool a,.bool b=>decide (a=b)
 |.int _ a,.int _ b=>decide (a=b)
 |_,_=>false
def FG:List Value→List Value→Bool
 |[],[]=>true
 |x::xs,y::ys=>okV x y&&FG xs ys
 |_,_=>false
def GM:List Value→List Value→Bool
 |[],[]=>true
 |x::xs,y::ys=>eqV x y&&GM xs ys
 |_,_=>false
theorem uN{t:TypeId}{cs:Array Value}{off:Nat}{v:Value}(a:pN P t=some false)(hc:cs[off]? =some v):(part t cs off).run P w=.ok v w:=by
 simp[part,HF a,hc]
theorem CO(d:Nat)(XS YS:Array Value):∀(fs:List Field) (k:Nat) (xs ys:List Value),nJ P k fs (xs.map codeOf)=true→FG xs ys=true→(∀j v,xs[j]? =some v→XS[k+j]? =some v)→(∀j v,ys[j]? =some v→YS[k+j]? =some v)→
 (Op.eqFields (d+1) XS YS fs).run P w=.ok (GM xs ys) w
 |[],k,[],[],_,_,_,_=>by simp[Op.eqFields,GM]
 |[],k,[],y::ys,_,h,_,_=>by simp[FG]at h
 |[],k,x::xs,ys,h,_,_,_=>by simp[nJ]at h
 |f::fs,k,[],ys,h,_,_,_=>by simp[nJ]at h
 |f::fs,k,x::xs,[],_,h,_,_=>by simp[FG]at h
 | f :: fs,k,x::xs,y::ys,h1,h2,p,o=>by
   simp only[aL,nJ,aM,fV]at h1;obtain⟨⟨⟨hn,ho⟩,hc⟩,hr⟩:=h1;simp only[FG,aM]at h2;have e:f.offset=k:=dD ho;have a:JF P f=codeOf x:=dD hc;have b:f.name≠ "_" :=by simpa using hn
   have hx0:=p 0 x rfl;have c:=o 0 y rfl;simp only[bZ]at hx0 c;have g:pN P f.type=some false:=by
    unfold JF at a;unfold pN;cases hu:P.underlying f.type with
    |none=>rw[hu]at a;cases x<;>simp[codeOf]at a
    |some de=>rw[hu]at a;cases de<;>first|rfl|(cases x<;>simp[codeOf]at a)
   have l:(Op.equalIn (d+1) f.type x y).run P w=.ok (eqV x y) w:=by
    unfold JF at a;cases x<;>cases y<;>simp[okV]at h2<;>simp only[codeOf]at a<;>
     (cases hu:P.underlying f.type with
      |none=>simp[hu]at a
      | some de=>
       cases de<;>simp[hu]at a;first
        |(rw[run_equalIn_bool' w d _ _ _ hu];simp[eqV,mA])
        |(rw[run_equalIn_string w d _ _ _ hu,IA];rfl)
        |(obtain⟨rfl,_⟩:=h2;rw[run_equalIn_int w d _ _ _ _ _ hu];rfl))
   have ih:=CO d XS YS fs (k+1) xs ys hr h2.2 (fun j v i=>by rw[show k+1+j=k+ (j+1)by omega];exact p (j+1) v (by simpa using i)) (fun j v i=>by rw[show k+1+j=k+ (j+1)by omega];exact o (j+1) v (by simpa using i));simp only[Op.eqFields,b,ne_eq,not_false_eq_true,if_true,Sem.run_bind,e,uN g hx0,uN g c,Result.andThen_ok,l];cases he:eqV x y
   ·simp[GM,he]
   ·simp[GM,he,ih]
theorem wF{t:TypeId}{xs ys:List Value}(a:P.underlying t=some (.struct (P.fieldsOf t)))(e:P.stoodInHeld t=false)(c:nJ P 0 (P.fieldsOf t).toList (xs.map codeOf)=true)(hv:FG xs ys=true)(w:World):
 (Op.equalIn 10000 t (.agg xs.toArray) (.agg ys.toArray)).run P w=.ok (GM xs ys) w:=by
 rw[run_equalIn_struct w 9999 t _ _ a e];exact CO 9998 _ _ _ 0 xs ys c hv (fun j v b=>by simpa using b) (fun j v b=>by simpa using b)
theorem aHv{p q:Operand}{t t2:TypeId}{xs ys:List Value}(hx0:ev l p=some (.agg xs.toArray))(hx1:ev l q=some (.agg ys.toArray))(hv:FG xs ys=true)(b:P.underlying t=some (.struct (P.fieldsOf t)))(e:P.stoodInHeld t=false)(hg:P.eqGuardType P.depth t=false)
 (c:nJ P 0 (P.fieldsOf t).toList (xs.map codeOf)=true):Val P μ l L ⟨ds,.binOp .eql t p q t2,ty,pos,af,gd⟩ (.bool (GM xs ys)):=fun a w hs=>by
 have e0:=hs.eval hx0;have e1:=hs.eval hx1;generalize a.eval=ρ at e0 e1;simp[execOp,e0,e1,run_eqGuard_agg w _ _ _ _ _ _ hg,run_eql_struct,wF b e c hv]
theorem VU{p q:Operand}{t t2:TypeId}{xs ys:List Value}(hx0:ev l p=some (.agg xs.toArray))(hx1:ev l q=some (.agg ys.toArray))(hv:FG xs ys=true)(b:P.underlying t=some (.struct (P.fieldsOf t)))(e:P.stoodInHeld t=false)(hg:P.eqGuardType P.depth t=false)
 (c:nJ P 0 (P.fieldsOf t).toList (xs.map codeOf)=true):Val P μ l L ⟨ds,.binOp .neq t p q t2,ty,pos,af,gd⟩ (.bool (!GM xs ys)):=fun a w hs=>by
 have e0:=hs.eval hx0;have e1:=hs.eval hx1;generalize a.eval=ρ at e0 e1;simp[execOp,e0,e1,run_eqGuard_agg w _ _ _ _ _ _ hg,run_neq_struct,wF b e c hv]
theorem aQk{p q:Operand}{t t2:TypeId}{x y:Bool}(ht:P.underlying t=some .bool)(hx0:ev l p=some (.bool x))(hx1:ev l q=some (.bool y)):Val P μ l L ⟨ds,.binOp .eql t p q t2,ty,pos,af,gd⟩ (.bool (decide (x=y))):=fun a w hs=>by
 have e0:=hs.eval hx0;have e1:=hs.eval hx1;generalize a.eval=ρ at e0 e1;have h:=run_equalIn_bool' (P:=P) w 9999 t x y ht;simp[execOp,e0,e1,eqGuard,binOp,Op.equal,Op.maxDepth,h,mA]
theorem aQj{p q:Operand}{t t2:TypeId}{x y:Bool}(ht:P.underlying t=some .bool)(hx0:ev l p=some (.bool x))(hx1:ev l q=some (.bool y)):Val P μ l L ⟨ds,.binOp .neq t p q t2,ty,pos,af,gd⟩ (.bool (decide (x≠y))):=fun a w hs=>by
 have e0:=hs.eval hx0;have e1:=hs.eval hx1;generalize a.eval=ρ at e0 e1;have h:=run_equalIn_bool' (P:=P) w 9999 t x y ht;simp[execOp,e0,e1,eqGuard,binOp,Op.equal,Op.maxDepth,h,mA]
end
end
section
open Go.RowKit
section
variable{P:Program}{X:Ctx}{ops:Array Oper}{Q:Exit→Act→World→Prop}{rest:List Oper}{μ μr:Mem}{l:bS}{L Lr:List Bk}{a:Act}{w:World}{o:Oper}{d fuel i:Nat}{listed:Array Bool}
variable{ty:TypeId}{pos:String}{af:Array Edge}{gd:Option (Nat×Bool)}
theorem St.aU7{b t:Nat}{cs:bS}(s:Nat)(h:St X μ l (.inl ⟨b,t,0,cs⟩::L) a w):St X μ l (.inr ⟨.slice (some ⟨b,0,none⟩) 0 0,t,s,0,[]⟩::L) a w:=by
 have e:(0:Nat)=0*s:=by simp
 rw[e]at h;have hc:LC cs 0 (0*s) []:=by rw[←e];exact cH
 exact h.aCv hc (by simp)
theorem aJ9{b t:Nat}{cs:bS}(s:Nat)(h:G P X ops Q rest μ l (.inr ⟨.slice (some ⟨b,0,none⟩) 0 0,t,s,0,[]⟩::L)):G P X ops Q rest μ l (.inl ⟨b,t,0,cs⟩::L):=fun a w hs=>h a w (hs.aU7 s)
end
end
section
open Go.RowKit
section
variable{P:Program}{X:Ctx}{ops:Array Oper}{Q:Exit→Act→World→Prop}{rest:List Oper}{μ μr:Mem}{l:bS}{L Lr:List Bk}{a:Act}{w:World}{o:Oper}{d fuel i:Nat}{listed:Array Bool}
variable{ty:TypeId}{pos:String}{af:Array Edge}{gd:Option (Nat×Bool)}
theorem aR4{e:Exit}{l' :bS}{L' :List Bk}(hl:wN l' l)(hL:L'.Sublist L)(h:GQ X Q e μ l' L'):GQ X Q e μ l L:=fun a w hs=>h a w (hs.sub hl hL)
theorem rZ{k:Nat}{y:Nat}{c:BoundsCode}(h:k≤y)(w:World):(Instr.sliceBound (.int .i64 (k:Int)) y c).run P w=.ok k w:=by
 have:(0:Int)≤k∧(k:Int)≤y:=by omega
 simp[Instr.sliceBound,asIntOf,this]
theorem LA{p q:Operand}{t e s:TypeId}{A:Option Addr}{n c:Nat}{j:Int}{ds:Option Nat}(k:Nat)(ht:P.underlying t=some (.slice e))(hs:jN P e=some s)(b:ev l p=some (.slice A n c))(hq:ev l q=some (.int .i64 j))(f:j=(k:Int))(hk:k≤c):
 Val P μ l L ⟨ds,.slice t p none (some q) none,ty,pos,af,gd⟩ (.slice A k c):=fun a w hr=>by
 have e0:=hr.eval b;have e1:=hr.eval hq;generalize a.eval=ρ at e0 e1;subst f;have hA:A.map (·.add (0*s))=A:=by cases A<;>simp[Addr.add]
 simp only[kS]at hA;simp[execOp,e0,e1,Instr.sliceAt,Instr.slice,run_underlying ht,Instr.sliceBounds,run_sizeOf hs,rZ hk,hA]
theorem lL{p q:Operand}{t e s:TypeId}{A:Option Addr}{n c:Nat}{j:Int}{ds:Option Nat}(k:Nat)(ht:P.underlying t=some (.slice e))(hs:jN P e=some s)(b:ev l p=some (.slice A n c))(hq:ev l q=some (.int .i64 j))(f:j=(k:Int))(hk:k≤n):
 Val P μ l L ⟨ds,.slice t p (some q) none none,ty,pos,af,gd⟩ (.slice (if c=k then A else A.map (·.add (k*s))) (n-k) (c-k)):=fun a w hr=>by
 have e0:=hr.eval b;have e1:=hr.eval hq;generalize a.eval=ρ at e0 e1;subst f;simp[execOp,e0,e1,Instr.sliceAt,Instr.slice,run_underlying ht,Instr.sliceBounds,run_sizeOf hs,rZ hk]
theorem SU{p q r:Operand}{t e s:TypeId}{A:Option Addr}{n c:Nat}{j i:Int}{ds:Option Nat}(k m:Nat)(ht:P.underlying t=some (.slice e))(hs:jN P e=some s)(f:ev l p=some (.slice A n c))(hq:ev l q=some (.int .i64 j))(g:j=(k:Int))(b:ev l r=some (.int .i64 i))(hi:i=(m:Int))(hk:k≤m)(hm:m≤c):
 Val P μ l L ⟨ds,.slice t p (some q) (some r) none,ty,pos,af,gd⟩ (.slice (if c=k then A else A.map (·.add (k*s))) (m-k) (c-k)):=fun a w hr=>by
 have e0:=hr.eval f;have e1:=hr.eval hq;have e2:=hr.eval b;generalize a.eval=ρ at e0 e1 e2;subst g hi;simp[execOp,e0,e1,e2,Instr.sliceAt,Instr.slice,run_underlying ht,Instr.sliceBounds,run_sizeOf hs,rZ hk,rZ hm]
theorem KY{p q:Operand}{t:TypeId}{b:ByteArray}{j:Int}{ds:Option Nat}(k:Nat)(ht:P.underlying t=some .string)(c:ev l p=some (.string b))(hq:ev l q=some (.int .i64 j))(e:j=(k:Int))(hk:k≤b.size):
 Val P μ l L ⟨ds,.slice t p none (some q) none,ty,pos,af,gd⟩ (.string (b.extract 0 k)):=fun a w hr=>by
 have e0:=hr.eval c;have e1:=hr.eval hq;generalize a.eval=ρ at e0 e1;subst e;simp[execOp,e0,e1,Instr.sliceAt,Instr.slice,run_underlying ht,Instr.sliceBounds,rZ hk]
theorem aAg{p q r:Operand}{t:TypeId}{b:ByteArray}{j i:Int}{ds:Option Nat}(k m:Nat)(ht:P.underlying t=some .string)(e:ev l p=some (.string b))(hq:ev l q=some (.int .i64 j))(f:j=(k:Int))(c:ev l r=some (.int .i64 i))(hi:i=(m:Int))(hk:k≤m)(hm:m≤b.size):
 Val P μ l L ⟨ds,.slice t p (some q) (some r) none,ty,pos,af,gd⟩ (.string (b.extract k m)):=fun a w hr=>by
 have e0:=hr.eval e;have e1:=hr.eval hq;have e2:=hr.eval c;generalize a.eval=ρ at e0 e1 e2;subst f hi;simp[execOp,e0,e1,e2,Instr.sliceAt,Instr.slice,run_underlying ht,Instr.sliceBounds,rZ hk,rZ hm]
theorem Sl.take{α:Type}{enc:α→List Value}{s n k:Nat}{A:Option Addr}{xs:List α}(h:Sl enc s μ A n xs)(hk:k≤n):Sl enc s μ A k (xs.take k):=by
 refine⟨by simp[h.1];omega,fun a=>?_⟩;obtain⟨ad,e,hc⟩:=h.2 (by omega);exact⟨ad,e,fun i x hi=>hc i x (by rw[eH]at hi;split at hi<;>simp_all)⟩
theorem Sl.drop{α:Type}{enc:α→List Value}{s n k c:Nat}{A:Option Addr}{xs:List α}(h:Sl enc s μ A n xs)(hk:k≤n)(hc:n≤c):Sl enc s μ (if c=k then A else A.map (·.add (k*s))) (n-k) (xs.drop k):=by
 refine⟨by simp[h.1],fun a=>?_⟩;obtain⟨ad,e,hc⟩:=h.2 (by omega);rw[if_neg (by omega),e];refine⟨_,rfl,fun i x hi=>?_⟩;have:=hc (k+i) x (by simpa using hi);rw[eI,←oD]at this;exact this
theorem Bk.cap{A:Option Addr}{n c e s m:Nat}{xs:List Value}(h:Bk.sh (.inr ⟨.slice A n c,e,s,m,xs⟩) μ):n≤c:=by
 rcases h.2 with⟨h1,_⟩|⟨g,cap,cur,h1,_,h3,_⟩
 ·simp at h1;omega
 ·simp at h1 h3;omega
end
end
section
open Go.RowKit
section
variable{P:Program}{X:Ctx}{ops:Array Oper}{Q:Exit→Act→World→Prop}{rest:List Oper}{μ μr:Mem}{l:bS}{L Lr:List Bk}{a:Act}{w:World}{o:Oper}{d fuel i:Nat}{listed:Array Bool}
variable{ty:TypeId}{pos:String}{af:Array Edge}{gd:Option (Nat×Bool)}{ds:Option Nat}
def QA(Q:Exit→Act→World→Prop)(R:Act→World→Prop):Exit→Act→World→Prop
 |.normal,a,w=>R a w
 |.exit id,a,w=>Q (.exit id) a w
 |.goto k,a,w=>Q (.goto k) a w
 |.ret,a,w=>Q .ret a w
 |.panic c,a,w=>Q (.panic c) a w
 |.outgrown,a,w=>Q .outgrown a w
theorem aS2{R K:Act→World→Prop}(h:o.wp P a w K (QA Q R)):o.wp P a w K Q:=by
 unfold Oper.wp at*;generalize (execOp a.eval o).run P w=r at*;cases r with
 | ok n w' =>
   cases n<;>first
    |exact h
    | (refine Calls.mono h (fun e w'' he=>?_)
       cases e with
       |returned v=>exact he
       |panicked c=>exact he
       |outgrown=>obtain⟨a',w3,b⟩:=he;exact⟨a',w3,b⟩)
 |halt x w' =>cases x<;>exact h
theorem aR8(ho:wY ops.toList i=some o)(h:G P X ops (QA Q (fun a w=>Sm μr Lr w∧wpAnyH P .any ops Q (Sm μr Lr) fuel (listed.setIfInBounds i true) a w)) [o] μ l L):eV P X μr Lr ops Q fuel listed i μ l L:=fun a w b c=>by
 have h1:=h a w b;unfold wpOp;simp only[zO ho];unfold wpList at h1;split
 ·rename_i hw;rw[if_pos hw]at h1;rcases h1 with h1|⟨h1,a',w',h2⟩
  ·exact .inl (aS2 h1)
  ·exact .inr ⟨h1,a',w',h2⟩
 ·rename_i hw;rw[if_neg hw]at h1;exact h1
theorem aKb(hle:MLe μr μ)(hLr:Lr.Sublist L)(h:GA P X μr Lr ops Q fuel listed μ l L):G P X ops (QA Q (fun a w=>Sm μr Lr w∧wpAnyH P .any ops Q (Sm μr Lr) fuel listed a w)) [] μ l L:=fun a w hs=>
 have c:Sm μr Lr w:=⟨fun b x e=>hs.mem b x (hle b x e),fun x f=>hs.own x (hLr.subset f)⟩
 ⟨c,h a w hs c⟩
theorem St.perm{L' :List Bk}(h:St X μ l L a w)(e:L'.Perm L):St X μ l L' a w:=
 ⟨h.size,h.defers,h.slots,h.gX,h.mem,h.from0,h.fresh,fun x c=>h.own x (e.subset c),fun x c=>h.priv x (e.subset c),fun x c=>h.new x (e.subset c),
   (e.pairwise_iff (fun{_ _} f b hb g=>f b g hb)).2 h.diff⟩
theorem St.KA{L' :List Bk}{y:Bk}(h:St X μ l L a w)(b:(y::L').Perm L)(c:X.M=X.M):∃μ',MLe μ μ' ∧Bk.sh y μ' ∧St X μ' l L' a w:=(h.perm b).aIb c
theorem pG{y:Bk}{L:List Bk}(b:X.M=X.M)(h:∀μ',MLe μ μ' →Bk.sh y μ' →G P X ops Q rest μ' l (L)):G P X ops Q rest μ l (y::L):=fun a w hs=>by
 obtain⟨μ',h1,h2,h3⟩:=hs.KA (L' :=L) (gW (l₁:=[])).symm b;exact h μ' h1 h2 a w h3
theorem qN{c:Code}{y:Bk}{L:List Bk}(b:X.M=X.M)(h:∀μ',MLe μ μ' →Bk.sh y μ' →GC P X c Q μ' l (L)):GC P X c Q μ l (y::L):=fun a w hs=>by
 obtain⟨μ',h1,h2,h3⟩:=hs.KA (L' :=L) (gW (l₁:=[])).symm b;exact h μ' h1 h2 a w h3
theorem DT{e:Exit}{y:Bk}{L:List Bk}(b:X.M=X.M)(h:∀μ',MLe μ μ' →Bk.sh y μ' →GQ X Q e μ' l (L)):GQ X Q e μ l (y::L):=fun a w hs=>by
 obtain⟨μ',h1,h2,h3⟩:=hs.KA (L' :=L) (gW (l₁:=[])).symm b;exact h μ' h1 h2 a w h3
theorem DS{e:Exit}{y:Bk}{y0:Bk}{L:List Bk}(b:X.M=X.M)(h:∀μ',MLe μ μ' →Bk.sh y μ' →GQ X Q e μ' l (y0::L)):GQ X Q e μ l (y0::y::L):=fun a w hs=>by
 obtain⟨μ',h1,h2,h3⟩:=hs.KA (L' :=y0::L) (gW (l₁:=[y0])).symm b;exact h μ' h1 h2 a w h3
def ResultVar.get(tmps:Array Value):ResultVar→Sem Value
 |.tmp t=>pure (tmps.getD t undef)
 |.cell a t=>do loadVar t (←asAddr (tmps.getD a undef))
def RV(P:Program)(μ:Mem)(l:bS)(L:List Bk)(r:ResultVar)(v:Value):Prop:=∀a w,Rd μ l L a w→(ResultVar.get a.tmps r).run P w=.ok v w
theorem cX{t:Nat}{v:Value}(h:lk l t=some v):RV P μ l L (.tmp t) v:=fun a w hr=>by
 have h1:=hr.slots _ _ h;simp[ResultVar.get,h1]
theorem aIh{t:Nat}{b s:Nat}{tt:TypeId}{y:Blk}{vs:List Value}(i:Nat)(h:lk l t=some (.pointer (some ⟨b,0,none⟩)))(e:pN P tt=some true)(c:jN P tt=some s)(hi:iI L i=some (.inl y))(hb:y.b=b)(hc:LC y.cs 0 s vs):RV P μ l L (.cell t tt) (.agg vs.toArray):=fun a w hr=>by
 have h1:=hr.slots _ _ h;subst hb;have:=vU (P:=P) (w:=w) (t:=tt) (A:=⟨y.b,0,none⟩) vs e (by rw[hc.len];exact c) (fun j v hv=>by rw[add_lit];exact hr.cell (fB (i:=i) hi) (by simpa using hc.get j v hv));simp only[Instr.loadAt,Instr.sureAddr,Sem.run_bind,Sem.run_pure,Result.andThen_ok]at this;simp[ResultVar.get,h1,asAddr,this]
theorem RG{t b s:Nat}{tt:TypeId}{y:Blk}{vs:List Value}(i:Nat)(h:lk l t=some (.pointer (some ⟨b,0,none⟩)))(c:pN P tt=some true)(a:jN P tt=some s)(hi:iI L i=some (.inl y))(hb:y.b=b)(hc:LC y.cs 0 s vs:=by repeat first|exact cH|refine bL rfl ?_):RV P μ l L (.cell t tt) (.agg vs.toArray):=aIh i h c a hi hb hc
theorem results1{fn:Func}{r:ResultVar}{v:Value}(hr:fn.results= #[r])(h:RV P μ l L r v)(hs:Rd μ l L a w):(results fn a.tmps).run P w=.ok v w:=by
 have h1:=h a w hs;cases r<;>simp[results,hr,ResultVar.get]at h1⊢ <;>exact h1
theorem wC{α β γ:Type}{x:Result α}{f:α→World→Result β}{g:β→World→Result γ}{v:β}{w:World}(h:x.andThen f=.ok v w):(x.andThen fun a w' =>(f a w').andThen g)=g v w:=by
 cases x with
 |ok a w' =>simp only[Result.andThen_ok]at h⊢;rw[h];rfl
 |halt y w' =>cases h
theorem results2{fn:Func}{r r2:ResultVar}{v v2:Value}(hr:fn.results= #[r,r2])(h:RV P μ l L r v)(b:RV P μ l L r2 v2)(hs:Rd μ l L a w):(results fn a.tmps).run P w=.ok (.tuple #[v,v2]) w:=by
 have h1:=h a w hs;have h2:=b a w hs;cases r<;>cases r2<;>simp[results,hr,ResultVar.get]at h1 h2⊢
 ·exact⟨h1,h2⟩
 ·rw[wC h2,h1]
 ·rw[wC h1,h2]
 ·rw[wC h1,wC h2]
theorem MC{fn:Func}{n:Nat}{r:ResultVar}{v v' :Value}{μ0:Mem}(hr:fn.results= #[r])(h:RV P μ l L r v')(e:v' =v):
 GQ ⟨w,μ0,[],n⟩ (bodyPost P fn (fun e w' =>e=.returned v∧Below w.heap.size w w')) .ret μ l L:=fun a w' hs=>
 ⟨hs.defers.none (by simp),v',results1 hr h hs.rd,by rw[e],hs.gX.below⟩
theorem wG{fn:Func}{n:Nat}{r r2:ResultVar}{v v' v2 v2' :Value}{μ0:Mem}(hr:fn.results= #[r,r2])(h:RV P μ l L r v')(b:RV P μ l L r2 v2')(e:v' =v)(e2:v2' =v2):
 GQ ⟨w,μ0,[],n⟩ (bodyPost P fn (fun e w' =>e=.returned (.tuple #[v,v2])∧Below w.heap.size w w')) .ret μ l L:=fun a w' hs=>
 ⟨hs.defers.none (by simp),.tuple #[v',v2'],results2 hr h b hs.rd,by rw[e,e2],hs.gX.below⟩
theorem sC{fn:Func}{n:Nat}{r:ResultVar}{v:Value}{μ0:Mem}{Post:Mem→Value→Prop}(hr:fn.results= #[r])(h:RV P μ l L r v)(b:∀μ',MLe μ μ' →(∀x∈L,Bk.sh x μ')→Post μ' v):
 GQ ⟨w,μ0,[],n⟩ (bodyPost P fn (fun e w' =>∃v μ',e=.returned v∧vI w w' μ0 μ' ∧Post μ' v)) .ret μ l L:=fun a w' hs=>by
 obtain⟨μ',hg,hle,hL⟩:=hs.aDn;exact⟨hs.defers.none (by simp),v,results1 hr h hs.rd,v,μ',rfl,hg,b μ' hle hL⟩
theorem HJ{fn:Func}{n:Nat}{r r2:ResultVar}{v v2:Value}{μ0:Mem}{Post:Mem→Value→Prop}(hr:fn.results= #[r,r2])(h:RV P μ l L r v)(c:RV P μ l L r2 v2)(b:∀μ',MLe μ μ' →(∀x∈L,Bk.sh x μ')→Post μ' (.tuple #[v,v2])):
 GQ ⟨w,μ0,[],n⟩ (bodyPost P fn (fun e w' =>∃v μ',e=.returned v∧vI w w' μ0 μ' ∧Post μ' v)) .ret μ l L:=fun a w' hs=>by
 obtain⟨μ',hg,hle,hL⟩:=hs.aDn;exact⟨hs.defers.none (by simp),_,results2 hr h c hs.rd,_,μ',rfl,hg,b μ' hle hL⟩
theorem aFg{f:FuncId}{q:Operand}{cap:Array Value}{xs:Array Operand}{ts:Array TypeId}{ρ:Operand→Value}(hf:jF P f=true)(a:ρ q=.func (.func f) #[] cap)(w:World):
 (execOp ρ ⟨ds,.call { callee:=.value q,args:=xs,argTypes:=ts },ty,pos,af,gd⟩).run P w=.ok (.enter f (xs.map ρ++cap)) w:=by
 unfold jF at hf;cases h:P.funcs[f]? with
 |none=>simp[h]at hf
 | some fn=>
   simp only[h,aM,fV]at hf;have hb:¬fn.body=none:=by intro hb;simp[hb]at hf
   have hn:¬fn.name= "runtime.NumGoroutine" :=by have:=hf.2;simpa using this
   simp[execOp,resolve,a,Deferred.ofValue,invoke,callFunc,h,hn,hb]
theorem aLa{f:FuncId}{q:Operand}{cap:List Value}{ts:Array TypeId}{x0:Operand}{v0:Value}(hq:ev l q=some (.func (.func f) #[] cap.toArray))(hf:jF P f=true)(h0:ev l x0=some v0):Ent P μ l L ⟨ds,.call { callee:=.value q,args:= #[x0],argTypes:=ts },ty,pos,af,gd⟩ f ([v0]++cap).toArray:=fun a w hs=>by
 rw[aFg hf (hs.eval hq)];have e0:=hs.eval h0;simp[e0]
theorem aHs{x y:Operand}{ts:Array TypeId}{i j:Int}(h0:ev l x=some (.int .i64 i))(h1:ev l y=some (.int .i64 j)):Val P μ l L ⟨ds,.call { callee:=.builtin .min,args:= #[x,y],argTypes:=ts },ty,pos,af,gd⟩ (.int .i64 (if j<i then j else i)):=fun a w hs=>by
 have e0:=hs.eval h0;have e1:=hs.eval h1;generalize a.eval=ρ at e0 e1;simp[execOp,resolve,invoke,builtin,Builtin.min_,Builtin.min2,e0,e1]
structure aE0 (A:Option Addr) (n c s:Nat) (xs:List Value):Prop where
 cap:n≤c
 len:xs.length=n*s
 form:(A=none∧n=0∧c=0)∨∃g,A=some ⟨g,0,none⟩
theorem St.aPv(h:St X μ l L a w){i:Nat}{r:Rw}(hi:iI L i=some (.inr r)):∃A c,r.v=.slice A r.n c∧aE0 A r.n c r.s r.xs:=by
 have b:w.ownsRow 0 r.e r.s r.v r.n r.xs:=h.own _ (fB hi);rcases b.2 with⟨h1,h2⟩|⟨g,cap,cur,h1,h3,h4,h5,h6⟩
 ·exact⟨none,0,by rw[h1,h2],by omega,b.1,.inl ⟨rfl,h2,rfl⟩⟩
 ·exact⟨_,_,h1,h5,b.1,.inr ⟨g,rfl⟩⟩
theorem fI{v:Value}{e s n:Nat}{ys:List Value}(i:Nat)(hi:iI L i=some (.inr ⟨v,e,s,n,ys⟩))(h:∀A c,v=.slice A n c→aE0 A n c s ys→G P X ops Q rest μ l L):G P X ops Q rest μ l L:=fun a w hs=>by
 obtain⟨A,c,h1,h2⟩:=hs.aPv hi;exact h A c h1 h2 a w hs
theorem gT{k:Code}{v:Value}{e s n:Nat}{ys:List Value}(i:Nat)(hi:iI L i=some (.inr ⟨v,e,s,n,ys⟩))(h:∀A c,v=.slice A n c→aE0 A n c s ys→GC P X k Q μ l L):GC P X k Q μ l L:=fun a w hs=>by
 obtain⟨A,c,h1,h2⟩:=hs.aPv hi;exact h A c h1 h2 a w hs
theorem aDa{q:Operand}{A:Option Addr}{m c e s:Nat}{xs:List Value}(i:Nat)(b:aE0 A m c s xs)(hi:iI L i=some (.inr ⟨.slice A m c,e,s,m,xs⟩))(hq:ev l q=some (.slice A m c)):Src μ l L q m xs:=by
 refine⟨A,c,hq,fun e0=>?_,fun ad e0 a w hr j u hu=>?_⟩
 ·rcases b.form with⟨_,h,_⟩|⟨g,h⟩
  ·exact⟨h,bV (by rw[b.len,h];simp)⟩
  ·rw[e0]at h;cases h
 ·rcases b.form with⟨h,_⟩|⟨g,h⟩
  ·rw[e0]at h;cases h
  ·rw[e0]at h;cases h;subst e0;rw[add_lit,bG];exact hr.TL (fB hi) hu
end
end
section
open Go.RowKit
section
variable{P:Program}{X:Ctx}{ops:Array Oper}{Q:Exit→Act→World→Prop}{rest:List Oper}{μ μr:Mem}{l:bS}{L Lr:List Bk}{a:Act}{w:World}{o:Oper}{d fuel i:Nat}{listed:Array Bool}
theorem HT{c:Exit}{b t sz:Nat}{cs:bS}{xs:List Value}(n s:Nat)(e:sz=n*s)(hc:LC cs 0 sz xs)(hn:n≤1000000)(h:GQ X Q c μ l (.inr ⟨.slice (some ⟨b,0,none⟩) n n,t,s,n,xs⟩::L)):GQ X Q c μ l (.inl ⟨b,t,sz,cs⟩::L):=fun a w hs=>by
 subst e;exact h a w (hs.aCv hc (dU hn (by decide)))
theorem RM{c:Exit}(e s:Nat)(h:GQ X Q c μ l (.inr ⟨.slice none 0 0,e,s,0,[]⟩::L)):GQ X Q c μ l L:=fun a w hs=>h a w (hs.xY e s)
end
section flat
variable{α:Type}{enc:α→List Value}{s:Nat}
theorem nP(he:∀x,(enc x).length=s)(l:List α):(l.flatMap enc).length=l.length*s:=by
 induction l with
 |nil=>simp
 |cons x l ih=>simp only[bU,aI,ih,he,bH,eI];omega
theorem aSf(he:∀x,(enc x).length=s)(l:List α)(k:Nat):(l.flatMap enc).take (k*s)=(l.take k).flatMap enc:=by
 by_cases h:k≤l.length
 ·conv=>lhs;rw[←dN k l,cZ]
  rw[jH (by rw[nP he];simp[jA h]),aK (by rw[nP he];simp[jA h])]
 ·rw[aK (l:=l) (by omega),aK];rw[nP he];exact kE s (by omega)
theorem aB7(he:∀x,(enc x).length=s)(l:List α)(k:Nat):(l.flatMap enc).drop (k*s)=(l.drop k).flatMap enc:=by
 by_cases h:k≤l.length
 ·conv=>lhs;rw[←dN k l,cZ]
  have hl:((l.take k).flatMap enc).length=k*s:=by rw[nP he];simp[jA h]
  rw[←hl,List.drop_left]
 ·rw[cB (l:=l) (by omega),cB]
  ·rfl
  ·rw[nP he];exact kE s (by omega)
theorem lQ(he:∀x,(enc x).length=s){l:List α}{k:Nat}{x:α}(h:l[k]? =some x)(j:Nat)(v:Value)(hv:(enc x)[j]? =some v):(l.flatMap enc)[k*s+j]? =some v:=by
 have a:j<s:=by rw[←he x];exact(List.getElem?_eq_some_iff.1 hv).1
 have h1:=aB7 he l k;have h2:((l.flatMap enc).drop (k*s))[j]? =some v:=by rw[h1];have hk:k<l.length:=(List.getElem?_eq_some_iff.1 h).1;rw[eE hk,(List.getElem?_eq_some_iff.1 h).2,bU,aV (by rw[he];exact a)];exact hv
 rw[fP]at h2;exact h2
end flat
end
section
open Go.RowKit
section
variable{P:Program}{X:Ctx}{ops:Array Oper}{Q:Exit→Act→World→Prop}{rest:List Oper}{μ μr:Mem}{l:bS}{L Lr:List Bk}{a:Act}{w:World}{o:Oper}{d fuel i:Nat}{listed:Array Bool}
variable{ty:TypeId}{pos:String}{af:Array Edge}{gd:Option (Nat×Bool)}{ds:Option Nat}
theorem JO(w:World)(k:Nat)(t e:TypeId)(A:Option Addr)(n c:Nat)(ht:P.underlying t=some (.slice e)):(Op.equalIn (k+1) t (.slice A n c) (.slice none 0 0)).run P w=.ok A.isNone w:=by
 unfold Op.equalIn;cases A<;>simp[run_underlying ht]
theorem JW{p:Operand}{t t2 e:TypeId}{A:Option Addr}{n c:Nat}(ht:P.underlying t=some (.slice e))(b:ev l p=some (.slice A n c)):Val P μ l L ⟨ds,.binOp .eql t p (.const (.slice none 0 0)) t2,ty,pos,af,gd⟩ (.bool A.isNone):=fun a w hs=>by
 have e0:=hs.eval b;have e1:a.eval (.const (.slice none 0 0))=.slice none 0 0:=rfl;generalize a.eval=ρ at e0 e1;have h:=JO (P:=P) w 9999 t e A n c ht;simp[execOp,e0,e1,eqGuard,binOp,Op.equal,Op.maxDepth,h]
theorem cR{α:Type}{enc:α→List Value}{sz n:Nat}{μ:Mem}{l:List α}{x:Blk}(h:Bk.sh (.inl x) μ)(hn:l.length=n)(he:∀y∈l,(enc y).length=sz)(hc:LC x.cs 0 (n*sz) (l.flatMap enc)):Sl enc sz μ (some ⟨x.b,0,none⟩) n l:=by
 refine Sl.aRm h hn (fun i y c j v a=>?_)
 have key:∀(xs:List α) (i:Nat) (x:α),(∀x∈xs,(enc x).length=sz)→xs[i]? =some x→∀j v,(enc x)[j]? =some v→(xs.flatMap enc)[i*sz+j]? =some v:=by
  intro xs;induction xs with
  |nil=>intro i x _ h;simp at h
  | cons y xs ih=>
    intro i x he hi j v a;have c:=he y (by simp);cases i with
    | zero=>
      simp at hi;subst hi;simp only[bU,kS,bG];rw[aV (List.getElem?_eq_some_iff.1 a).1];exact a
    | succ i=>
      simp only[bU];rw[aP (by rw[c,eI];omega),c,show(i+1)*sz+j-sz=i*sz+j by rw[eI];omega];exact ih i x (fun z e=>he z (by simp[e])) (by simpa using hi) j v a
 simpa using hc.get _ v (key l i y he c j v a)
end
end
section
open Go.RowKit
section
variable{P:Program}{X:Ctx}{ops:Array Oper}{Q:Exit→Act→World→Prop}{rest:List Oper}{μ μr:Mem}{l:bS}{a:Act}{w:World}{o:Oper}{d fuel i:Nat}{listed:Array Bool}
theorem St.cells{L L' :List Bk}{i:Nat}{b t sz:Nat}{cs cs' :bS}(h:St X μ l L a w)(hi:iI L i=some (.inl ⟨b,t,sz,cs⟩))(hs:wN cs' cs)(hL:fT L i (.inl ⟨b,t,sz,cs'⟩)=L'):St X μ l L' a w:=by
 rw[←hL];refine h.upd (w' :=w) hi rfl rfl rfl (aC _) (fun _ _ _=>rfl) ?_ (fun b hb=>.inl hb);obtain⟨arr,h1,h2,h3⟩:=h.own _ (fB hi);exact⟨arr,h1,h2,fun k v hk=>h3 k v (hs k v hk)⟩
end
end
end Go.Vcg
namespace Go.Proofs.YtlllalmkkaolfaaGreatDoor
end Go.Proofs.YtlllalmkkaolfaaGreatDoor
