/- Package scope's reference: subtrees as runs of positions; cases, heads and declarations around a node. -/
import Derived.Test.YtlllalmkkaolfaaGreatDoorUav
set_option maxRecDepth 20000
namespace Go.Proofs.YtlllalmkkaolfaaGreatDoor
section
open Go.RowKit Go.Vcg
section
variable{E:List Fl}
theorem QS{n:Nat}(ih:∀(t:T) (up:Int) (kid fn i c:Nat),t.size≤n→AtG E n t up kid fn i c→∀x,i<x→x<i+t.size→∃p:Nat,(aH E x).up=(p:Int)∧i≤p∧p<x∧(aH E x).last≤(aH E p).last∧x≤(aH E x).last)(pa fn:Nat):∀(ks:List T) (j x0 c:Nat),(∀k∈ks,k.size≤n)→qF E n ks (pa:Int) j fn x0 c→x0+szs ks≤(aH E pa).last+1→pa<x0→∀x,x0≤x→x<x0+szs ks→∃p:Nat,(aH E x).up=(p:Int)∧pa≤p∧p<x∧(aH E x).last≤(aH E p).last∧x≤(aH E x).last
 | [],_,_,_,_,_,_,_,x,h1,h2=>by rw[show szs []=0 from rfl]at h2;omega
 | k ::r,j,x0,c,hk,hA,hl,f,x,h1,h2=>by
   have a:=hk k (aE ..);rw[bK]at h2 hl;by_cases b:x<x0+k.size
   ·by_cases e:x=x0
    ·subst e;obtain⟨h3,-⟩:=hA.hd.rA a;have:=aS k;exact⟨pa,by rw[h3],aC _,f,by rw[h3];dsimp only;omega,by rw[h3];dsimp only;omega⟩
    ·obtain⟨p,g1,g2,g3⟩:=ih k _ _ _ _ _ a hA.hd x (by omega) b;exact⟨p,g1,by omega,g3⟩
   ·exact QS ih pa fn r (j+1) _ _ (fun k h=>hk k (bP h)) (hA.tl a) (by omega) (by omega) x (by omega) (by omega)
theorem FH:∀(n:Nat) (t:T) (up:Int) (kid fn i c:Nat),t.size≤n→AtG E n t up kid fn i c→∀x,i<x→x<i+t.size→∃p:Nat,(aH E x).up=(p:Int)∧i≤p∧p<x∧(aH E x).last≤(aH E p).last∧x≤(aH E x).last
 |0,t,_,_,_,_,_,h,_,_,_,_=>by have:=aS t;omega
 | n+1,t,up,kid,fn,i,c,hs,hA,x,h1,h2=>by have a:=aS t;exact QS (FH n) i _ t.kids 0 (i+1) _ (fun k hk=>eN hs hk) hA.kids (by rw[hA.eat];dsimp only;omega) (by omega) x (by omega) (by omega)
theorem LL{q:T→Prop}{n:Nat}(ih:∀(t:T) (up:Int) (kid fn i c:Nat),t.size≤n→dJ q t→AtG E n t up kid fn i c→∀x,i≤x→x<i+t.size→∃n' t' up' kid' fn' c',t'.size≤n' ∧dJ q t' ∧AtG E n' t' up' kid' fn' x c')(pa:Int)(fn:Nat):∀(ks:List T) (j x0 c:Nat),(∀k∈ks,k.size≤n∧dJ q k)→qF E n ks pa j fn x0 c→∀x,x0≤x→x<x0+szs ks→∃n' t' up' kid' fn' c',t'.size≤n' ∧dJ q t' ∧AtG E n' t' up' kid' fn' x c'
 | [],_,_,_,_,_,x,h1,h2=>by rw[show szs []=0 from rfl]at h2;omega
 | k::r,j,x0,c,hk,hA,x,h1,h2=>by
   have a:=hk k (aE ..);rw[bK]at h2;by_cases b:x<x0+k.size
   ·exact ih k _ _ _ _ _ a.1 a.2 hA.hd x h1 b
   ·exact LL ih pa fn r (j+1) _ _ (fun k h=>hk k (bP h)) (hA.tl a.1) x (by omega) (by omega)
theorem SZ{q:T→Prop}:∀(n:Nat) (t:T) (up:Int) (kid fn i c:Nat),t.size≤n→dJ q t→AtG E n t up kid fn i c→∀x,i≤x→x<i+t.size→∃n' t' up' kid' fn' c',t'.size≤n' ∧dJ q t' ∧AtG E n' t' up' kid' fn' x c'
 |0,t,_,_,_,_,_,h,_,_,_,_,_=>by have:=aS t;omega
 | n+1,t,up,kid,fn,i,c,hs,hq,hA,x,h1,h2=>by
   by_cases e:x=i
   ·subst e;exact⟨n+1,t,up,kid,fn,c,hs,hq,hA⟩
   ·have a:=aS t;exact LL (SZ n) i _ t.kids 0 (i+1) _ (fun k hk=>⟨eN hs hk,hq.kid hk⟩) hA.kids x (by omega) (by omega)
end
def fS(E:List Fl)(i:Nat):RS:=foldI (bI E) 0 i kO
structure Gw (E:List Fl) (R:RS):Prop where
 fw:Fw E R
 eR:R=fS E E.length
 inner:∀d x,d<x→x≤(aH E d).last→x<E.length→(d:Int)≤(aH E x).up
 ups:∀x<E.length,(aH E x).up<x
 vk:∀x<E.length,Vk (aH E x).t
 kidv:∀(x p:Nat),x<E.length→(aH E x).up=(p:Int)→(aH E p).t.kids[(aH E x).kid]? =some (aH E x).t
section
variable{E:List Fl}{R:RS}
theorem wS(i:Nat):fS E (i+1)=bI E (fS E i) i:=by
 unfold fS;rw[kR,bG];rfl
theorem WA(i m:Nat):foldI (bI E) i m (fS E i)=fS E (i+m):=by
 unfold fS;rw[kR,bG]
theorem VZ(s:RS)(i:Nat):∃(o:Int) (c:List Sc),(bI E s i).ins=s.ins++[inG E s.ins s.ops (aH E i).up (aH E i).kid]∧(bI E s i).ops=s.ops++[o]∧(bI E s i).L=s.L++c∧o=(if(nmE E i).2<0 then-1 else(s.L.length:Int)+ (if jC (aH E i).t=true then 1 else 0)):=by
 unfold bI;dsimp only;by_cases h:(nmE E i).2<0
 ·rw[if_pos h,if_pos h];exact⟨_,[],rfl,rfl,by simp,rfl⟩
 ·rw[if_neg h,if_neg h];cases hs:jC (aH E i).t with
  | true=>
    rw[if_pos rfl,if_pos rfl];exact⟨_,_,rfl,rfl,bA _ [_] [_],by rw[aI,cN];rfl⟩
  | false=>
    rw[if_neg (by simp),if_neg (by simp)];exact⟨_,_,rfl,rfl,rfl,by simp⟩
theorem aAn:∀(m i:Nat),∃a b c,(fS E (i+m)).ins=(fS E i).ins++a∧(fS E (i+m)).ops=(fS E i).ops++b∧(fS E (i+m)).L=(fS E i).L++c
 |0,i=>⟨[],[],[],by simp,by simp,by simp⟩
 | m+1,i=>by obtain⟨a,b,c,h1,h2,h3⟩:=aAn m i;obtain⟨o,c',h4,h5,h6,-⟩:=VZ (E:=E) (fS E (i+m)) (i+m);rw[←cW,wS,h4,h5,h6,h1,h2,h3];exact⟨_,_,_,bA ..,bA ..,bA ..⟩
theorem Gw.pre(G:Gw E R){i:Nat}(hi:i≤E.length):∃a b c,R.ins=(fS E i).ins++a∧R.ops=(fS E i).ops++b∧R.L=(fS E i).L++c:=by
 obtain⟨m,hm⟩:=Nat.exists_eq_add_of_le hi;rw[G.eR,hm];exact aAn m i
theorem Gw.arr(G:Gw E R){i:Nat}(hi:i≤E.length):Arr E i (fS E i):=Arr.run G.ups i hi
theorem Gw.zV(G:Gw E R){i j:Nat}(h:i≤j):(fS E i).L.length≤(fS E j).L.length:=by
 obtain⟨m,rfl⟩:=Nat.exists_eq_add_of_le h;obtain⟨a,b,c,-,-,h3⟩:=aAn (E:=E) m i;rw[h3,aI];omega
theorem Gw.YO(G:Gw E R){x:Nat}(e:x<E.length):inN R x=inG E (fS E x).ins (fS E x).ops (aH E x).up (aH E x).kid:=by
 obtain⟨a,b,c,h1,h2,-⟩:=G.pre (iO e);have hA:=G.arr (iO e);unfold inN;rw[G.fw.arr.hin x e,h1,h2,UD _ _ _ _ _ _ (by rw[hA.li];exact G.ups x e) (by rw[hA.lo];exact G.ups x e)];rfl
theorem Gw.MP(G:Gw E R){x:Nat}(e:x<E.length):opN R x=if(nmE E x).2<0 then-1 else((fS E x).L.length:Int)+ (if jC (aH E x).t=true then 1 else 0):=by
 obtain⟨a,b,c,-,h2,-⟩:=G.pre (i:=x+1) e;obtain⟨o,c',-,h5,-,ho⟩:=VZ (E:=E) (fS E x) x;have hA:=G.arr (iO e);rw[←wS]at h5;unfold opN;rw[h2,h5,bA,aP (by rw[hA.lo];exact aC _),hA.lo,cK,←ho];rfl
theorem Gw.aDq(G:Gw E R){z x:Nat}(f:z<x)(e:x≤E.length):opN R z< (fS E x).L.length:=by
 obtain⟨a,b,c,-,h2,-⟩:=G.pre e;have hA:=G.arr e;have hl:z< (fS E x).ops.length:=by rw[hA.lo];exact f
 unfold opN;rw[h2,aV hl,aA hl];exact hA.lt z _ (aA hl)
def GP(E:List Fl)(R:RS):Nat→Nat→Int→Int
 |0,_,_=>0
 |f+1,x,a=>if(aH E x).up<0 then 0 else if opN R (aH E x).up.toNat=a∧(aH E (aH E x).up.toNat).t.op=21 then((aH E x).kid:Int)-1 else GP E R f (aH E x).up.toNat a
def qC(E:List Fl)(R:RS)(x:Nat)(a:Int):Int:=GP E R (x+1) x a
def FT(E:List Fl)(R:RS):Nat→Nat→Int→Bool
 |0,_,_=>false
 |f+1,x,a=>if(aH E x).up<0 then false else if opN R (aH E x).up.toNat=a∧((aH E (aH E x).up.toNat).t.op=11∨(aH E (aH E x).up.toNat).t.op=12)∧(aH E x).kid=1 then true else FT E R f (aH E x).up.toNat a
def oS(E:List Fl)(R:RS)(x:Nat)(a:Int):Bool:=FT E R (x+1) x a
def yX(op:Int)(kid:Nat):Bool:=decide (op=60∨op=61∨op=64∨(op=62∧kid=1)∨(op=63∧kid=0))
def TS(E:List Fl):Nat→Nat→Nat→Bool
 |0,_,_=>false
 |f+1,x,d=>if(aH E x).up<0 then false else if(aH E (aH E x).up.toNat).t.op=3 then decide ((aH E x).up.toNat=d∧(aH E x).kid=0)else if yX (aH E (aH E x).up.toNat).t.op (aH E x).kid=false then false else TS E f (aH E x).up.toNat d
def wH(E:List Fl)(x d:Nat):Bool:=TS E (x+1) x d
def GW(E:List Fl)(x:Nat):Prop:=∃d,wH E x d=true
theorem OR(G:Gw E R){a:Int}:∀(f g x:Nat),x<E.length→x<f→x<g→GP E R f x a=GP E R g x a
 |0,_,_,_,h,_=>by omega
 |_,0,_,_,_,h=>by omega
 | f+1,g+1,x,b,h1,h2=>by
   rw[GP,GP];have:=G.ups x b;split
   ·rfl
   split
   ·rfl
   ·exact OR G f g _ (by omega) (by omega) (by omega)
theorem NM(G:Gw E R){a:Int}:∀(f g x:Nat),x<E.length→x<f→x<g→FT E R f x a=FT E R g x a
 |0,_,_,_,h,_=>by omega
 |_,0,_,_,_,h=>by omega
 | f+1,g+1,x,b,h1,h2=>by
   rw[FT,FT];have:=G.ups x b;split
   ·rfl
   split
   ·rfl
   ·exact NM G f g _ (by omega) (by omega) (by omega)
theorem QP(G:Gw E R){d:Nat}:∀(f g x:Nat),x<E.length→x<f→x<g→TS E f x d=TS E g x d
 |0,_,_,_,h,_=>by omega
 |_,0,_,_,_,h=>by omega
 | f+1,g+1,x,a,h1,h2=>by
   rw[TS,TS];have:=G.ups x a;split
   ·rfl
   split
   ·rfl
   split
   ·rfl
   ·exact QP G f g _ (by omega) (by omega) (by omega)
theorem wB(G:Gw E R){x p:Nat}{a:Int}(b:x<E.length)(hu:(aH E x).up=(p:Int)):qC E R x a=if opN R p=a∧(aH E p).t.op=21 then((aH E x).kid:Int)-1 else qC E R p a:=by
 have:=G.ups x b;unfold qC;rw[GP,if_neg (by omega),hu,aG];split
 ·rfl
 ·exact OR G _ _ _ (by omega) (by omega) (by omega)
theorem FQ(G:Gw E R){x p:Nat}{a:Int}(b:x<E.length)(hu:(aH E x).up=(p:Int)):oS E R x a=if opN R p=a∧((aH E p).t.op=11∨(aH E p).t.op=12)∧(aH E x).kid=1 then true else oS E R p a:=by
 have:=G.ups x b;unfold oS;rw[FT,if_neg (by omega),hu,aG];split
 ·rfl
 ·exact NM G _ _ _ (by omega) (by omega) (by omega)
theorem DP(G:Gw E R){x p d:Nat}(a:x<E.length)(hu:(aH E x).up=(p:Int)):wH E x d=if(aH E p).t.op=3 then decide (p=d∧(aH E x).kid=0)else if yX (aH E p).t.op (aH E x).kid=false then false else wH E p d:=by
 have:=G.ups x a;unfold wH;rw[TS,if_neg (by omega),hu,aG];split
 ·rfl
 split
 ·rfl
 ·exact QP G _ _ _ (by omega) (by omega) (by omega)
theorem aHe(G:Gw E R){x p:Nat}(a:x<E.length)(hu:(aH E x).up=(p:Int))(h3:(aH E p).t.op=3):GW E x↔(aH E x).kid=0:=by
 refine⟨fun⟨d,h⟩=>?_,fun h=>⟨p,?_⟩⟩
 ·rw[DP G a hu,if_pos h3]at h;exact(of_decide_eq_true h).2
 ·rw[DP G a hu,if_pos h3];exact decide_eq_true ⟨rfl,h⟩
theorem aEr(G:Gw E R){x p:Nat}(a:x<E.length)(hu:(aH E x).up=(p:Int))(h3:(aH E p).t.op≠3)(b:yX (aH E p).t.op (aH E x).kid=false):¬GW E x:=fun⟨d,h⟩=>by
 rw[DP G a hu,if_neg h3,if_pos b]at h;cases h
theorem aOz(G:Gw E R){x p:Nat}(a:x<E.length)(hu:(aH E x).up=(p:Int))(h3:(aH E p).t.op≠3)(b:yX (aH E p).t.op (aH E x).kid=true):GW E x↔GW E p:=by
 unfold GW;refine exists_congr fun d=>?_;rw[DP G a hu,if_neg h3,if_neg (by rw[b];decide)]
theorem VD(G:Gw E R){a:Int}:∀(x:Nat),x<E.length→(fS E x).L.length≤a→qC E R x a=0:=by
 intro x;induction x using Nat.strongRecOn with
 | ind x ih=>
   intro b e;by_cases h0:(aH E x).up<0
   ·unfold qC;rw[GP,if_pos h0]
   ·obtain⟨p,c⟩:∃p:Nat,(aH E x).up=(p:Int):=⟨(aH E x).up.toNat,by omega⟩;have hlt:=G.ups x b;have h1:=G.aDq (z:=p) (x:=x) (by omega) (by omega);rw[wB G b c,if_neg (by omega)];exact ih p (by omega) (by omega) (by have:=G.zV (i:=p) (j:=x) (by omega);omega)
theorem UE(G:Gw E R){a:Int}:∀(x:Nat),x<E.length→(fS E x).L.length≤a→oS E R x a=false:=by
 intro x;induction x using Nat.strongRecOn with
 | ind x ih=>
   intro b e;by_cases h0:(aH E x).up<0
   ·unfold oS;rw[FT,if_pos h0]
   ·obtain⟨p,c⟩:∃p:Nat,(aH E x).up=(p:Int):=⟨(aH E x).up.toNat,by omega⟩;have hlt:=G.ups x b;have h1:=G.aDq (z:=p) (x:=x) (by omega) (by omega);rw[FQ G b c,if_neg (by omega)];exact ih p (by omega) (by omega) (by have:=G.zV (i:=p) (j:=x) (by omega);omega)
theorem Fw.ZX(hw:Fw E R){x p a:Nat}(g:x<E.length)(j:(aH E x).up=(p:Int))(i:p<x)(hc:kN R.L a (inN R x)):((a:Int)=opN R p∧inN R x=opN R p)∨(jC (aH E p).t=true∧(a:Int)+1=opN R p)∨kN R.L a (inN R p):=by
 have hi:=hw.tQ g j;by_cases e:opN R p<0∨((aH E p).t.op=21∧(aH E x).kid=0)
 ·rw[if_pos e]at hi;rw[hi]at hc;exact .inr (.inr hc)
 ·rw [if_neg e]at hi;rcases hw.opens (x:=p) (by omega)with h|⟨m,hm,f,-⟩
  ·exact absurd (.inl (by omega)) e
  rw[hm]at hi⊢;rw[hi]at hc⊢
  have fin:∀b:Int,b=(m:Int)→kN R.L a b→((a:Int)=(m:Int)∧(m:Int)=(m:Int))∨(jC (aH E p).t=true∧(a:Int)+1=(m:Int))∨kN R.L a (inN R p):=fun b hb h=>by
   cases h with
   |here=>exact .inl ⟨by omega,rfl⟩
   | up h0 c hlt hne h=>
     rw[show b.toNat=m by omega,f.2.2]at c;cases c;dsimp only at h;by_cases hs:jC (aH E p).t=true
     ·rw [if_pos hs]at h;obtain⟨h1,h2⟩:=f.2.1 hs;have c:∀b:Int,b=(m:Int)-1→kN R.L a b→(a:Int)+1=m∨kN R.L a (inN R p):=fun b hb h=>by
       cases h with
       |here=>exact .inl (by omega)
       | up h0 c hlt hne h=>
         rw[show b.toNat=m-1 by omega,h2]at c;cases c;exact .inr h
      rcases c _ rfl h with h|h
      ·exact .inr (.inl ⟨hs,h⟩)
      ·exact .inr (.inr h)
     ·rw[if_neg hs]at h;exact .inr (.inr h)
  exact fin _ rfl hc
end
end
section
open Go.RowKit Go.Vcg
section
variable{κ α:Type}[DecidableEq κ]
theorem YQ(k:κ):∀(M:List (κ×α)) (i j:Nat),(pZ k M i).map (·.2)=(pZ k M j).map (·.2)
 |[],_,_=>rfl
 | (a,x)::r,i,j=>by
   unfold pZ;split
   ·rfl
   ·exact YQ k r _ _
theorem oG(k a:κ)(x:α)(r:List (κ×α)):gM k ((a,x)::r)=if k=a then some x else gM k r:=by
 unfold gM;rw[pZ];split
 ·rfl
 ·exact YQ k r _ _
theorem AF(a k:κ)(v:α):∀M:List (κ×α),gM a (iS k v M)=if a=k then some v else gM a M
 |[]=>by rw[iS,oG]
 | (b,x)::r=>by
   have ih:=AF a k v r;rw[iS];by_cases hk:k=b
   ·rw[if_pos hk,oG,oG];subst hk;split<;>rfl
   ·rw[if_neg hk,oG,oG,ih];by_cases c:a=b
    ·rw[if_pos c,if_pos c,if_neg (fun h=>hk (by rw[←h,c]))]
    ·rw[if_neg c,if_neg c]
theorem IY{a k:κ}(h:a≠k):∀M:List (κ×α),gM a (tJ k M)=gM a M
 |[]=>rfl
 | (b,x)::r=>by
   rw[tJ];by_cases hk:k=b
   ·rw[if_pos hk,oG,if_neg (by rw[←hk];exact h)]
   ·rw[if_neg hk,oG,oG,IY h r]
def NdK(M:List (κ×α)):Prop:=(M.map Prod.fst).Nodup
theorem aD8{k:κ}:∀{M:List (κ×α)},k∉M.map Prod.fst→gM k M=none
 |[],_=>rfl
 | (b,x)::r,h=>by rw[aL,aR]at h;rw[oG,if_neg (fun e=>h (.inl e)),aD8 fun e=>h (.inr e)]
theorem YX{k:κ}:∀{M:List (κ×α)},NdK M→gM k (tJ k M)=none
 |[],_=>rfl
 | (b,x)::r,h=>by
   unfold NdK at h;rw[aL,List.nodup_cons]at h;rw[tJ];by_cases hk:k=b
   ·rw[if_pos hk];exact aD8 (by rw[hk];exact h.1)
   ·rw[if_neg hk,oG,if_neg hk];exact YX h.2
theorem aDm(k:κ)(v:α):∀(M:List (κ×α)) (a:κ),a∈(iS k v M).map Prod.fst↔a=k∨a∈M.map Prod.fst
 |[],a=>by simp[iS]
 | (b,x)::r,a=>by
   have ih:=aDm k v r a;rw[iS];by_cases hk:k=b
   ·rw[if_pos hk];simp[hk]
   ·rw[if_neg hk,aL,aL,aR,aR,ih];constructor
    ·rintro(h|h|h)
     ·exact .inr (.inl h)
     ·exact .inl h
     ·exact .inr (.inr h)
    ·rintro(h|h|h)
     ·exact .inr (.inl h)
     ·exact .inl h
     ·exact .inr (.inr h)
theorem aIv(k:κ)(v:α):∀{M:List (κ×α)},NdK M→NdK (iS k v M)
 |[],_=>by simp[iS,NdK]
 | (b,x)::r,h=>by
   unfold NdK at h⊢;rw[aL,List.nodup_cons]at h;rw[iS];by_cases hk:k=b
   ·rw[if_pos hk,aL,List.nodup_cons];exact h
   ·rw[if_neg hk,aL,List.nodup_cons];exact⟨fun e=>by
     rcases(aDm k v r b).1 e with e|e
     ·exact hk e.symm
     ·exact h.1 e,aIv k v h.2⟩
theorem aEp(k:κ):∀(M:List (κ×α)),((tJ k M).map Prod.fst).Sublist (M.map Prod.fst)
 |[]=>bQ _
 | (b,x)::r=>by
   rw[tJ];split
   ·rw[aL];exact List.sublist_cons_self ..
   ·rw[aL,aL];exact(aEp k r).cons_cons b
theorem aSo(k:κ){M:List (κ×α)}(h:NdK M):NdK (tJ k M):=List.Nodup.sublist (aEp k M) h
end
inductive VO {α β:Type} (q:α→β→Prop):List α→List β→Prop
 |nil:VO q [] []
 |cons {a:α} {b:β} {l:List α} {m:List β}:q a b→VO q l m→VO q (a::l) (b::m)
theorem VO.snoc{α β:Type}{q:α→β→Prop}{l:List α}{m:List β}(h:VO q l m){a:α}{b:β}(c:q a b):VO q (l++[a]) (m++[b]):=by
 induction h with
 |nil=>exact .cons c .nil
 |cons h1 _ ih=>exact .cons h1 ih
theorem aKl{l m:List Sc}{a:Nat}(h:a<l.length):oB (l++m) a=oB l a:=by
 unfold oB;rw[aV h]
section
variable(E:List Fl)(R:RS)
def aAe(P:Nat→Prop)(s:FS):Prop:=∀a b:Nat,(fD R.L a b=1∨fD R.L a b=2)→
 (∀k,gM ((a:Int),(b:Int)) s.done=some k→∃d y,d<E.length∧P d∧IsD E d y∧iD R.L (inN R d) y=some (a,b)∧k=qC E R d a)∧
 (gM ((a:Int),(b:Int)) s.done=none→∀d y,d<E.length→IsD E d y→iD R.L (inN R d) y=some (a,b)→¬P d)
def usN(x:Nat):List Nat:=(List.range x).filter (mR E)
def uxE(x:Nat)(ck:Bool):Ux:=match iD R.L (inN R x) (aH E x).t.s with
 |none=>⟨⟨(aH E x).t.at',inN R x,2,0,0,0,(aH E x).t.s,false⟩,0,0,false,((aH E x).fn:Int)⟩
 |some (a,b)=>⟨⟨(aH E x).t.at',inN R x,2,0,0,fD R.L a b,(aH E x).t.s,ck⟩,a,b,true,((aH E x).fn:Int)⟩
def VK(x a b:Nat):Prop:=(∃d y,d<E.length∧(aH E d).last<x∧IsD E d y∧iD R.L (inN R d) y=some (a,b)∧qC E R d a=qC E R x a)∧((aH E x).fn:Int)=oB R.L a∧oS E R x a=false
def CkP(x:Nat):Prop:=∃a b,iD R.L (inN R x) (aH E x).t.s=some (a,b)∧(fD R.L a b=1∨fD R.L a b=2)∧¬GW E x∧¬VK E R x a b
def UxP(x:Nat)(u:Ux):Prop:=∃ck,u=uxE E R x ck∧(ck=true↔CkP E R x)
def Us2(x:Nat)(us:List Ux):Prop:=VO (UxP E R) (usN E x) us
structure FI (i:Nat) (w:Wh) (s:FS):Prop where
 dn:aAe E R (fun d=>(aH E d).last<i) s
 cs:∀a:Nat,kN R.L a w.scope→(gM (a:Int) s.cases).getD 0=qC E R i a∧(gM (a:Int) s.heads).getD false=oS E R i a
 us:Us2 E R i s.uses
 fr:∀a:Int,s.scopes.length≤a→gM a s.cases=none∧gM a s.heads=none
 nd:NdK s.heads
structure FO (i j:Nat) (s s' :FS):Prop where
 dn:aAe E R (fun d=>(aH E d).last<i∨(i≤d∧d<j)) s'
 us:Us2 E R j s'.uses
 fr:∀a:Int,s'.scopes.length≤a→gM a s'.cases=none∧gM a s'.heads=none
 kp:∀a:Int,a<s.scopes.length→gM a s'.cases=gM a s.cases∧gM a s'.heads=gM a s.heads
 nd:NdK s'.heads
def Uq:Prop:=∀d d' y y' a b,d<E.length→d' <E.length→IsD E d y→IsD E d' y' →iD R.L (inN R d) y=some (a,b)→iD R.L (inN R d') y' =some (a,b)→(fD R.L a b=1∨fD R.L a b=2)→d=d'
def aC2(n fu f:Nat)(k:T):Prop:=∀(up:Int) (kid fn i c:Nat) (w:Wh) (s:FS),AtG E n k up kid fn i c→Rel i c s (fS E i)→w.fn=fn→w.scope=inN R i→
 ¬(0≤up∧(aH E up.toNat).t.op=39∧(aH E up.toNat).t.n=3∧kid=0)→(k.op=6→0≤up∧(aH E up.toNat).t.op≠4)→(w.decl=true↔GW E i)→(w.decl=true→PtB k)→FI E R i w s→FO E R i (i+k.size) s (nbS fu f k w s)
structure KdI (pa x:Nat) (s0 s:FS):Prop where
 dn:aAe E R (fun d=>(aH E d).last<pa∨(pa<d∧d<x)) s
 us:Us2 E R x s.uses
 fr:∀a:Int,s.scopes.length≤a→gM a s.cases=none∧gM a s.heads=none
 kp:∀a:Int,a<s0.scopes.length→gM a s.cases=gM a s0.cases∧gM a s.heads=gM a s0.heads
 nd:NdK s.heads
 ow:∀a:Int,s0.scopes.length≤a→a≤opN R pa→gM a s.heads=none∧((aH E pa).t.op≠21∨a≠opN R pa→gM a s.cases=none)
end
section
variable{E:List Fl}{R:RS}
theorem aAe.congr{P Q:Nat→Prop}{s s' :FS}(h:aAe E R P s)(hP:∀d,d<E.length→(aH E d).t.op=3→(P d↔Q d))(e:s'.done=s.done):aAe E R Q s' :=fun a b hk=>by
 obtain⟨h1,h2⟩:=h a b hk;rw[e];refine⟨fun k hg=>?_,fun hg d y hd hi hf hq=>h2 hg d y hd hi hf ((hP d hd hi.1).2 hq)⟩;obtain⟨d,y,a1,a2,a3,a4⟩:=h1 k hg;exact⟨d,y,a1,(hP d a1 a3.1).1 a2,a3,a4⟩
theorem LI(x:Nat):usN E (x+1)=usN E x++(if mR E x=true then[x]else[]):=by
 unfold usN;rw[List.range_succ,List.filter_append];congr 1;by_cases h:mR E x=true
 ·rw[if_pos h,List.filter_cons_of_pos h];rfl
 ·rw[if_neg h,List.filter_cons_of_neg h];rfl
theorem Us2.skip{x:Nat}{us:List Ux}(h:Us2 E R x us)(hu:mR E x=false):Us2 E R (x+1) us:=by
 unfold Us2;rw[LI,if_neg (by rw[hu];decide),eD];exact h
theorem Us2.use{x:Nat}{us:List Ux}{u:Ux}(h:Us2 E R x us)(hu:mR E x=true)(a:UxP E R x u):Us2 E R (x+1) (us++[u]):=by
 unfold Us2;rw[LI,if_pos hu];exact VO.snoc h a
theorem Gw.NH(G:Gw E R):∀(x:Nat),x<E.length→inN R x< (fS E x).L.length:=by
 intro x;induction x using Nat.strongRecOn with
 | ind x ih=>
   intro a;by_cases h0:x=0
   ·subst h0;rw[G.fw.in0];omega
   ·obtain⟨p,b,hlt,-⟩:=G.fw.par (by omega) a;have h1:=G.aDq (z:=p) (x:=x) hlt (by omega);have h2:=ih p hlt (by omega);have h3:=G.zV (i:=p) (j:=x) (by omega);rw[G.fw.tQ a b];split<;>omega
theorem Gw.inn(G:Gw E R){d:Nat}:∀(p:Nat),d<p→p≤(aH E d).last→p<E.length→(aH E p).last≤(aH E d).last:=by
 intro p;induction p using Nat.strongRecOn with
 | ind p ih=>
   intro h1 h2 h3;have hi:=G.inner d p h1 h2 h3;have hn:=(G.fw.nest p (by omega) h3).1;have hu:=G.ups p h3;by_cases e:(aH E p).up.toNat=d
   ·rw[e]at hn;exact hn
   ·have:=ih (aH E p).up.toNat (by omega) (by omega) (by omega) (by omega);omega
theorem Gw.lo(G:Gw E R){d:Nat}(h:d<E.length)(h3:(aH E d).t.op=3):d≤(aH E d).last:=by
 have h0:0<d:=by
  rcases Nat.eq_zero_or_pos d with rfl|h
  ·rw[G.fw.root.1]at h3;omega
  ·exact h
 exact(G.fw.nest d h0 h).2
theorem Gw.AQ(G:Gw E R){pa x:Nat}(a:x<E.length)(c:pa<x)(hu:(aH E x).up=(pa:Int)){d:Nat}(hd:d<E.length)(h3:(aH E d).t.op=3):((aH E d).last<pa∨(pa<d∧d<x))↔(aH E d).last<x:=by
 have b:=G.lo hd h3;have hn:=G.fw.nest x (by omega) a;rw[hu,aG]at hn;constructor
 ·rintro(h|⟨h1,h2⟩)
  ·omega
  ·refine Decidable.byContradiction fun h=>?_;have:=G.inner d x h2 (by omega) a;omega
 ·intro h;by_cases h1:pa<d
  ·exact .inr ⟨h1,by omega⟩
  ·refine .inl (Decidable.byContradiction fun h2=>?_);by_cases e:d=pa
   ·subst e;omega
   ·have:=G.inn (d:=d) pa (by omega) (by omega) (by omega);omega
theorem aDv(G:Gw E R)(hU:Uq E R){i c:Nat}{w:Wh}{s:FS}{t:T}(z:Rel i c s (fS E i))(hi:i<E.length)(f:(aH E i).t.s=t.s∧(aH E i).t.at' =t.at')(hw:w.scope=inN R i)(g:w.fn=((aH E i).fn:Int))(hd:w.decl=true↔GW E i)(r:aAe E R (fun d=>(aH E d).last<i) s)(u:∀a:Nat,kN R.L a w.scope→(gM (a:Int) s.cases).getD 0=qC E R i a∧(gM (a:Int) s.heads).getD false=oS E R i a)(p:Us2 E R i s.uses)(hu:mR E i=true):Us2 E R (i+1) (pL t w s).uses:=by
 obtain⟨_,_,cL,-,-,hL⟩:=G.pre (i:=i) (iO hi);rw[z.L]at hL;have hlt:w.scope<s.scopes.length:=by rw[hw,←z.L];exact G.NH i hi
 have e:iD R.L (inN R i) (aH E i).t.s=iD s.scopes w.scope t.s:=by rw[hL,←hw,f.1,FZ _ _ _ hlt]
 unfold pL;refine p.use hu ?_;cases hf:iD s.scopes w.scope t.s with
 | none=>
   refine⟨false,?_,⟨(fun h=>by cases h),(fun⟨a,b,h,_⟩=>by rw[e,hf]at h;cases h)⟩⟩;unfold uxE;rw[e,hf];dsimp only;rw[f.1,f.2,←hw,←g]
 | some ab=>
   obtain⟨a,b⟩:=ab;obtain⟨c0,d0,x,-⟩:=mD hf;have o:=(List.getElem?_eq_some_iff.1 x).1;have hk:fD R.L a b=fD s.scopes a b:=by rw[hL,NA o]
   have q:oB R.L a=oB s.scopes a:=by rw[hL,aKl o]
   have v:kN R.L a w.scope:=by rw[hw];exact tK (e.trans hf)
   obtain⟨c1,c2⟩:=u a v;dsimp only;refine⟨_,by
    unfold uxE;rw[e,hf];dsimp only;rw[f.1,f.2,←hw,←g,hk],?_⟩
   have j:(fD R.L a b=1∨fD R.L a b=2)→(qL s a b w.fn=true↔VK E R i a b):=fun l=>by
    obtain⟨q1,q2⟩:=r a b l;unfold qL;cases hg:gM ((a:Int),(b:Int)) s.done with
    | none=>
      refine⟨(fun h=>by cases h),fun h=>?_⟩;obtain⟨⟨d,y,g1,g2,g3,g4,-⟩,-⟩:=h;exact absurd g2 (q2 hg d y g1 g3 g4)
    | some k=>
      obtain⟨d,y,g1,g2,g3,g4,g5⟩:=q1 k hg;dsimp only;rw[aM,aM,decide_eq_true_eq,decide_eq_true_eq,c1,c2,g,←q,fV];constructor
      ·rintro⟨⟨h1,h2⟩,h3⟩;exact⟨⟨d,y,g1,g2,g3,g4,by rw[←g5,h3]⟩,h1,h2⟩
      ·rintro⟨⟨d',y',g1',g2',g3',g4',g5'⟩,h1,h2⟩;obtain rfl:=hU d d' y y' a b g1 g1' g3 g3' g4 g4' l;exact⟨⟨h1,h2⟩,by rw[g5,g5']⟩
   rw[aM,aM,Bool.or_eq_true,decide_eq_true_eq,decide_eq_true_eq,←hk,fV,fV];constructor
   ·rintro⟨⟨h1,h2⟩,h3⟩;exact⟨a,b,e.trans hf,h1,(fun h=>by rw[hd.2 h]at h2;cases h2),(fun h=>by rw[(j h1).2 h]at h3;cases h3)⟩
   ·rintro⟨a',b',h0,h1,h2,h3⟩;rw[e,hf]at h0;injection h0 with h0
    injection h0 with e1 e2
    subst e1 e2;exact⟨⟨h1,Bool.eq_false_iff.2 fun h=>h2 (hd.1 h)⟩,Bool.eq_false_iff.2 fun h=>h3 ((j h1).1 h)⟩
def QC(N:T→Wh→FS→FS)(os:Int)(cn hc:Bool)(w:Wh)(k:T)(jj:Nat)(s:FS):FS:=
 let s1:FS:=if cn=true then{ s with cases:=iS os ((jj-1:Nat):Int) s.cases }else s
 let s2:FS:=if hc=true then{ s1 with heads:=iS os true s1.heads }else s1
 let s3:=N k w s2
 if hc=true then{ s3 with heads:=tJ os s3.heads }else s3
def cnE(E:List Fl)(R:RS)(pa jj:Nat):Bool:=decide ((aH E pa).t.op=21∧0≤opN R pa∧jj≠0)
def hcE(E:List Fl)(R:RS)(pa jj:Nat):Bool:=decide (((aH E pa).t.op=11∨(aH E pa).t.op=12)∧0≤opN R pa∧jj=1)
def DcK(E:List Fl)(pa jj:Nat):Prop:=if(aH E pa).t.op=3 then jj=0 else yX (aH E pa).t.op jj=true∧GW E pa
theorem aO0(G:Gw E R){x pa:Nat}(a:x<E.length)(hu:(aH E x).up=(pa:Int)):GW E x↔DcK E pa (aH E x).kid:=by
 unfold DcK;by_cases h3:(aH E pa).t.op=3
 ·rw[if_pos h3];exact aHe G a hu h3
 ·rw[if_neg h3];cases b:yX (aH E pa).t.op (aH E x).kid with
  |true=>rw[aOz G a hu h3 b];simp
  |false=>simp[aEr G a hu h3 b]
section
variable{n fu:Nat}
theorem ND(G:Gw E R){pa fn:Nat}{s0:FS}{w0:Wh}(o:pa<E.length)(hI:FI E R pa w0 s0)(ai:w0.scope=inN R pa)(l:s0.scopes=(fS E pa).L){k:T}{x j c f:Nat}{w:Wh}{s:FS}(hk:k.size≤n)(hG:Good E n fu f k)(hF:aC2 E R n fu f k)(hA:AtG E n k (pa:Int) j fn x c)(hR:Rel x c s (fS E x))(hp:pa<x)(u:KdI E R pa x s0 s)(ag:w.fn=fn)(ab:w.scope=inN R x)(hd:w.decl=true↔DcK E pa j)(aj:w.decl=true→PtB k)(ah:¬((aH E pa).t.op=39∧(aH E pa).t.n=3∧j=0))(h6:k.op=6→(aH E pa).t.op≠4):Rel (x+k.size) (c+jZ (gE n k (pa:Int) j fn x c)) (QC (nbS fu f) (opN R pa) (cnE E R pa j) (hcE E R pa j) w k j s) (fS E (x+k.size))∧KdI E R pa (x+k.size) s0 (QC (nbS fu f) (opN R pa) (cnE E R pa j) (hcE E R pa j) w k j s):=by
 obtain⟨hx1,g⟩:=hA.rA hk;have hu:(aH E x).up=(pa:Int):=by rw[hx1]
 have z:(aH E x).kid=j:=by rw[hx1]
 have ae:=G.MP o;have ar:opN R pa<s.scopes.length:=by rw[←hR.L];exact G.aDq hp (by omega)
 have r:0≤opN R pa→(s0.scopes.length:Int)≤opN R pa:=fun h=>by
  rw[l,ae];rw[ae]at h;split at h
  ·omega
  ·rename_i h2;rw[if_neg h2];split<;>omega
 have au:inN R pa<s0.scopes.length:=by rw[l];exact G.NH pa o
 have aa:=G.fw.tQ g hu;rw[z]at aa;unfold QC;dsimp only
 -- ahead of the call
 obtain⟨s1,y⟩:∃s1:FS,(if cnE E R pa j=true then{ s with cases:=iS (opN R pa) ((j-1:Nat):Int) s.cases }else s)=s1:=⟨_,rfl⟩;rw[y];have b1:s1.scopes=s.scopes∧s1.uses=s.uses∧s1.funcs=s.funcs∧s1.heads=s.heads∧s1.done=s.done:=by rw[←y];split<;>exact⟨rfl,rfl,rfl,rfl,rfl⟩
 have b2:∀a:Int,gM a s1.cases=if cnE E R pa j=true∧a=opN R pa then some ((j-1:Nat):Int)else gM a s.cases:=fun a=>by
  rw[←y];by_cases hc:cnE E R pa j=true
  ·rw[if_pos hc];dsimp only;rw[AF];by_cases b:a=opN R pa
   ·rw[if_pos b,if_pos ⟨hc,b⟩]
   ·rw[if_neg b,if_neg fun h=>b h.2]
  ·rw[if_neg hc,if_neg fun h=>hc h.1]
 clear y;obtain⟨s2,v⟩:∃s2:FS,(if hcE E R pa j=true then{ s1 with heads:=iS (opN R pa) true s1.heads }else s1)=s2:=⟨_,rfl⟩;rw[v];have c1:s2.scopes=s.scopes∧s2.uses=s.uses∧s2.funcs=s.funcs∧s2.cases=s1.cases∧s2.done=s.done∧NdK s2.heads:=by
  rw[←v];split
  ·exact⟨b1.1,b1.2.1,b1.2.2.1,rfl,b1.2.2.2.2,aIv _ _ (by rw[b1.2.2.2.1];exact u.nd)⟩
  ·exact⟨b1.1,b1.2.1,b1.2.2.1,rfl,b1.2.2.2.2,by rw[b1.2.2.2.1];exact u.nd⟩
 have c2:∀a:Int,gM a s2.heads=if hcE E R pa j=true∧a=opN R pa then some true else gM a s.heads:=fun a=>by
  rw[←v];by_cases hc:hcE E R pa j=true
  ·rw[if_pos hc];dsimp only;rw[AF,b1.2.2.2.1];by_cases b:a=opN R pa
   ·rw[if_pos b,if_pos ⟨hc,b⟩]
   ·rw[if_neg b,if_neg fun h=>b h.2]
  ·rw[if_neg hc,if_neg (fun h=>hc h.1),b1.2.2.2.1]
 clear v;have c3:∀a:Int,gM a s2.cases=if cnE E R pa j=true∧a=opN R pa then some ((j-1:Nat):Int)else gM a s.cases:=fun a=>by rw[c1.2.2.2.1,b2]
 have af:Rel x c s2 (fS E x):=hR.eqv ⟨c1.1,c1.2.2.1,by rw[c1.2.1]⟩;have hin:w.scope=inG E (fS E x).ins (fS E x).ops (pa:Int) j:=by rw[ab,G.YO g,hu,z]
 obtain⟨r1,-⟩:=hG (pa:Int) j fn x c w s2 (fS E x) hA af ag hin (fun h=>ah (by rw[aG]at h;exact h.2)) (fun h=>⟨by omega,by rw[aG];exact h6 h⟩);rw[WA]at r1
 have aq:FI E R x w s2:=by
  refine⟨u.dn.congr (fun d hd h3=>G.AQ g hp hu hd h3) c1.2.2.2.2.1,fun a b=>?_,by rw[c1.2.1];exact u.us,fun a b=>?_,c1.2.2.2.2.2⟩
  ·rw [ab]at b;rw[c3,c2,wB G g hu,FQ G g hu,z];rcases G.fw.ZX g hu hp b with⟨h1,h2⟩|⟨h1,h2⟩|h1
   ·have hg:=r (by omega);have q:=u.ow (a:Int) (by omega) (by omega);have ak:¬((aH E pa).t.op=21∧j=0):=fun h=>by rw[if_pos (.inr h)]at aa;omega
    have ap:=VD G (a:=(a:Int)) pa o (by rw[←l];omega);have an:=UE G (a:=(a:Int)) pa o (by rw[←l];omega);refine⟨?_,?_⟩
    ·by_cases p:(aH E pa).t.op=21
     ·have hj:j≠0:=fun h=>ak ⟨p,h⟩;rw[if_pos ⟨by unfold cnE;exact decide_eq_true ⟨p,by omega,hj⟩,h1⟩,if_pos ⟨h1.symm,p⟩];show((j-1:Nat):Int)=(j:Int)-1
      omega
     ·rw[if_neg (fun h=>p (by have:=h.1;unfold cnE at this;exact(of_decide_eq_true this).1)),if_neg (fun h=>p h.2),q.2 (.inl p),ap];rfl
    ·by_cases hh:((aH E pa).t.op=11∨(aH E pa).t.op=12)∧j=1
     ·rw[if_pos ⟨by unfold hcE;exact decide_eq_true ⟨hh.1,by omega,hh.2⟩,h1⟩,if_pos ⟨h1.symm,hh⟩];rfl
     ·rw[if_neg (fun h=>hh (by have:=h.1;unfold hcE at this;exact⟨(of_decide_eq_true this).1,(of_decide_eq_true this).2.2⟩)),if_neg (fun h=>hh h.2),q.1,an];rfl
   ·have h4:=aPq h1;have hg:(s0.scopes.length:Int)≤a:=by rw[ae,if_pos h1]at h2;rw[l];split at h2<;>omega
    have q:=u.ow (a:Int) hg (by omega);rw[if_neg (fun h=>by omega),if_neg (fun h=>by omega),if_neg (fun h=>by omega),if_neg (fun h=>by omega),q.1,q.2 (.inl (by omega)),VD G (a:=(a:Int)) pa o (by rw[←l];omega),UE G (a:=(a:Int)) pa o (by rw[←l];omega)];exact⟨rfl,rfl⟩
   ·have hn:=h1.uS;have hne:(a:Int)≠opN R pa:=fun h=>by have:=r (by omega);omega
    obtain⟨k1,k2⟩:=u.kp (a:Int) (by omega);rw[if_neg (fun h=>hne h.2),if_neg (fun h=>hne h.1.symm),if_neg (fun h=>hne h.2),if_neg (fun h=>hne h.1.symm),k1,k2];exact hI.cs a (by rw[ai];exact h1)
  ·rw[c1.1]at b;have hne:a≠opN R pa:=by omega
   rw[c3,c2,if_neg (fun h=>hne h.2),if_neg (fun h=>hne h.2)];exact u.fr a b
 have hO:=hF (pa:Int) j fn x c w s2 hA af ag ab (fun h=>ah (by rw[aG]at h;exact h.2)) (fun h=>⟨by omega,by rw[aG];exact h6 h⟩) (hd.trans (by rw[aO0 G g hu,z])) aj aq;generalize nbS fu f k w s2=s3 at r1 hO⊢;obtain⟨s4,ad⟩:∃s4:FS,(if hcE E R pa j=true then{ s3 with heads:=tJ (opN R pa) s3.heads }else s3)=s4:=⟨_,rfl⟩;rw[ad];have d1:s4.scopes=s3.scopes∧s4.uses=s3.uses∧s4.funcs=s3.funcs∧s4.cases=s3.cases∧s4.done=s3.done∧NdK s4.heads:=by
  rw[←ad];split
  ·exact⟨rfl,rfl,rfl,rfl,rfl,aSo _ hO.nd⟩
  ·exact⟨rfl,rfl,rfl,rfl,rfl,hO.nd⟩
 have d2:∀a:Int,gM a s4.heads=if hcE E R pa j=true∧a=opN R pa then none else gM a s3.heads:=fun a=>by
  rw[←ad];by_cases hc:hcE E R pa j=true
  ·rw[if_pos hc];dsimp only;by_cases b:a=opN R pa
   ·rw[if_pos ⟨hc,b⟩,b];exact YX hO.nd
   ·rw[if_neg (fun h=>b h.2),IY b]
  ·rw[if_neg hc,if_neg fun h=>hc h.1]
 have al:s2.scopes.length≤s3.scopes.length:=by have h1:=r1.L;have h2:=af.L;rw[←h1,←h2];exact G.zV (by omega)
 rw[c1.1]at al;refine⟨r1.eqv ⟨d1.1,d1.2.2.1,by rw[d1.2.1]⟩,⟨hO.dn.congr (fun d hd h3=>?_) d1.2.2.2.2.1,by rw[d1.2.1];exact hO.us,fun a b=>?_,fun a b=>?_,d1.2.2.2.2.2,fun a h1 h2=>?_⟩⟩
 ·have:=G.AQ g hp hu hd h3;constructor
  ·rintro(h|h)
   ·rcases this.2 h with h|h
    ·exact .inl h
    ·exact .inr ⟨h.1,by omega⟩
   ·exact .inr ⟨by omega,h.2⟩
  ·rintro(h|h)
   ·exact .inl (this.1 (.inl h))
   ·by_cases ao:d<x
    ·exact .inl (this.1 (.inr ⟨h.1,ao⟩))
    ·exact .inr ⟨by omega,h.2⟩
 ·rw[d1.1]at b;have hne:a≠opN R pa:=by omega
  rw[d1.2.2.2.1,d2,if_neg (fun h=>hne h.2)];exact hO.fr a b
 ·have hne:a≠opN R pa∨opN R pa<0:=by
   by_cases h:0≤opN R pa
   ·have:=r h;exact .inl (by omega)
   ·exact .inr (by omega)
  have e1:¬(cnE E R pa j=true∧a=opN R pa):=fun h=>by
   have:=h.1;unfold cnE at this;have:=(of_decide_eq_true this).2.1;rcases hne with hne|hne
   ·exact hne h.2
   ·omega
  have e2:¬(hcE E R pa j=true∧a=opN R pa):=fun h=>by
   have:=h.1;unfold hcE at this;have:=(of_decide_eq_true this).2.1;rcases hne with hne|hne
   ·exact hne h.2
   ·omega
  obtain⟨q1,q2⟩:=hO.kp a (by
   rw[c1.1];have h1:=hR.L;have:=G.zV (E:=E) (R:=R) (i:=pa) (j:=x) (by omega);rw[←h1];rw[l]at b;omega)
  rw[c3,if_neg e1]at q1;rw[c2,if_neg e2]at q2;obtain⟨q3,q4⟩:=u.kp a b;rw[d1.2.2.2.1,d2,if_neg e2,q1,q2];exact⟨q3,q4⟩
 ·obtain⟨q1,q2⟩:=hO.kp a (by rw[c1.1];omega);obtain⟨q3,q4⟩:=u.ow a h1 h2;rw[d1.2.2.2.1,d2,q1,q2,c3,c2];refine⟨?_,fun h=>?_⟩
  ·by_cases e:hcE E R pa j=true∧a=opN R pa
   ·rw[if_pos e]
   ·rw[if_neg e,if_neg e];exact q3
  ·rw[if_neg (fun e=>?_)]
   ·exact q4 h
   ·have:=e.1;unfold cnE at this;have:=(of_decide_eq_true this).1;rcases h with h|h
    ·exact h this
    ·exact h e.2
theorem HR(G:Gw E R)(ihG:∀k,k.size≤n→dJ Vn k→∀f,k.size≤f→Good E n fu f k)(ihF:∀k,k.size≤n→dJ Vn k→dJ Vj k→∀f,k.size≤f→aC2 E R n fu f k){pa fn:Nat}{s0:FS}{w0:Wh}(g:pa<E.length)(hI:FI E R pa w0 s0)(e:w0.scope=inN R pa)(o:s0.scopes=(fS E pa).L)(F:FS→T→Nat→FS):∀(ks:List T) (j x c:Nat) (s:FS),(∀k∈ks,k.size≤n∧dJ Vn k∧dJ Vj k)→qF E n ks (pa:Int) j fn x c→Rel x c s (fS E x)→pa<x→KdI E R pa x s0 s→
 (∀(k:T) (jj:Nat) (s:FS),k∈ks→j≤jj→(aH E pa).t.kids[jj]? =some k→∃f w,k.size≤f∧F s k jj=QC (nbS fu f) (opN R pa) (cnE E R pa jj) (hcE E R pa jj) w k jj s∧w.fn=fn∧(w.scope=if opN R pa<0∨((aH E pa).t.op=21∧jj=0)then inN R pa else opN R pa)∧(w.decl=true↔DcK E pa jj)∧(w.decl=true→PtB k))→
 (∀jj,j≤jj→¬((aH E pa).t.op=39∧(aH E pa).t.n=3∧jj=0))→(∀k∈ks,k.op=6→(aH E pa).t.op≠4)→
 Rel (x+szs ks) (c+jZ (fE (gE n) ks (pa:Int) j fn x c)) (oX F ks j s) (fS E (x+szs ks))∧KdI E R pa (x+szs ks) s0 (oX F ks j s)
 |[],j,x,c,s,_,_,u,_,v,_,_,_=>⟨u,v⟩
 | k::r,j,x,c,s,hk,hA,u,z,v,y,p,h6=>by obtain⟨a,l,q⟩:=hk k (aE ..);obtain⟨hx1,b⟩:=hA.hd.rA a;have i:=G.kidv x pa b (by rw[hx1]);rw[hx1]at i;obtain⟨f,w,hf,e1,e2,e3,e4,e5⟩:=y k j s (aE ..) (aC _) i;obtain⟨g1,g2⟩:=ND G g hI e o a (ihG k a l f hf) (ihF k a l q f hf) hA.hd u z v e2 (by rw[e3,G.fw.tQ b (by rw[hx1]),hx1]) e4 e5 (p j (aC _)) (h6 k (aE ..));rw[←e1]at g1 g2;rw[bK,oX,fE,qB,←cW,←cW];exact HR G ihG ihF g hI e o F r (j+1) (x+k.size) _ _ (fun k h=>hk k (bP h)) (hA.tl a) g1 (by omega) g2 (fun k jj s h hj=>y k jj s (bP h) (by omega)) (fun jj hj=>p jj (by omega)) (fun k h=>h6 k (bP h))
end
end
end
section
open Go.RowKit Go.Vcg
section
variable{E:List Fl}{R:RS}{n fu:Nat}
theorem JB{i j:Nat}{s s' :FS}(h:KdI E R i j s s')(h3:(aH E i).t.op≠3)(hij:i<j):FO E R i j s s' :=
 ⟨h.dn.congr (fun d _ h4=>by
   have hne:d≠i:=fun e=>by rw[e]at h4;exact h3 h4
   omega) rfl,h.us,h.fr,h.kp,h.nd⟩
theorem aC9(N:T→Wh→FS→FS)(os:Int)(w:Wh)(k:T)(jj:Nat)(s:FS):QC N os false false w k jj s=N k w s:=rfl
theorem aEt{i jj:Nat}(h:(aH E i).t.op≠21):cnE E R i jj=false:=decide_eq_false fun e=>h e.1
theorem aD4{i jj:Nat}(h:(aH E i).t.op≠11∧(aH E i).t.op≠12):hcE E R i jj=false:=decide_eq_false fun e=>by
 rcases e.1 with e|e
 ·exact h.1 e
 ·exact h.2 e
theorem rX(G:Gw E R){i:Nat}{w:Wh}{s:FS}{kind:Int}{l:List Bd}(hi:i<E.length)(hL:s.scopes=(fS E i).L)(b:w.scope=inN R i)(h4:(aH E i).t.op≠4)(hk:0≤kind)(c:nmE E i=kT l kind):(eF w l s).scope=(if opN R i<0 then inN R i else opN R i)∧(opN R i<0↔l.length=0):=by
 have a:jC (aH E i).t=false:=by unfold jC;rw[decide_eq_false h4];rfl
 have ho:=G.MP hi;rw[a,c]at ho;unfold kT at ho;unfold eF nG;by_cases hl:l.length=0
 ·rw[if_pos hl,if_pos (show((-1:Int)<0)by decide)]at ho;rw[if_pos hl,ho,if_pos (by decide)];exact⟨b,⟨fun _=>hl,fun _=>by decide⟩⟩
 ·rw[if_neg hl,if_neg (by dsimp only;omega),if_neg (by simp),Int.add_zero]at ho;rw[if_neg hl,ho,if_neg (by omega),hL];exact⟨rfl,⟨fun h=>by omega,fun h=>absurd h hl⟩⟩
theorem oR(w:Wh)(l:List Bd)(s:FS):(eF w l s).decl=w.decl:=by unfold eF;split<;>rfl
theorem vP(G:Gw E R)(ihG:∀k,k.size≤n→dJ Vn k→∀f,k.size≤f→Good E n fu f k)(ihF:∀k,k.size≤n→dJ Vn k→dJ Vj k→∀f,k.size≤f→aC2 E R n fu f k){t:T}{up:Int}{kid fn i c:Nat}{w:Wh}{s:FS}{kind:Int}{l:List Bd}(hs:t.size≤n+1)(hq:∀k∈t.kids,dJ Vn k)(hj:∀k∈t.kids,dJ Vj k)(hA:AtG E (n+1) t up kid fn i c)(hR:Rel i c s (fS E i))(v:w.fn=fn)(j:w.scope=inN R i)(h4:t.op≠4)(z:¬(t.op=39∧t.n=3))(hk:0≤kind)(u:nmE E i=kT l kind)(hu:mR E i=false)(hI:FI E R i w s)(F:FS→T→Nat→FS)
 (hF:∀(k:T) (jj:Nat) (s:FS),k∈t.kids→t.kids[jj]? =some k→∃f w,k.size≤f∧F s k jj=QC (nbS fu f) (opN R i) (cnE E R i jj) (hcE E R i jj) w k jj s∧w.fn=fn∧(w.scope=if opN R i<0∨(t.op=21∧jj=0)then inN R i else opN R i)∧(w.decl=true↔DcK E i jj)∧(w.decl=true→PtB k)):KdI E R i (i+t.size) s (oX F t.kids 0 (iJ kind t.at' w l s)):=by
 have q:=hA.eat;have hlt:=hA.lt hs;have r:=aS t;have p:i<E.length:=by omega
 have het:(aH E i).t=t:=by rw[q]
 have hin:w.scope=inG E (fS E i).ins (fS E i).ops up kid:=by rw[j,G.YO p,q]
 obtain⟨h1,-,-⟩:=BW hA hR v hin h4 hk u hu;rw[←wS]at h1;have e1:∀{α:Type} (g:FS→α),(∀x,g (kL kind t.at' w l s)=x→g s=x→True)→True:=fun _ _=>trivial;have b:(iJ kind t.at' w l s).uses=s.uses∧(iJ kind t.at' w l s).cases=s.cases∧(iJ kind t.at' w l s).heads=s.heads∧(iJ kind t.at' w l s).done=s.done∧s.scopes.length≤(iJ kind t.at' w l s).scopes.length:=by
  unfold iJ kL;split
  ·exact⟨rfl,rfl,rfl,rfl,aC _⟩
  ·exact⟨rfl,rfl,rfl,rfl,by simp⟩
 obtain⟨b1,b2,b3,b4,b5⟩:=b;have hK:KdI E R i (i+1) s (iJ kind t.at' w l s):=by
  refine⟨hI.dn.congr (fun d _ _=>by omega) b4,by rw[b1];exact hI.us.skip hu,fun a y=>?_,fun a _=>by rw[b2,b3];exact⟨rfl,rfl⟩,by rw[b3];exact hI.nd,fun a y _=>?_⟩
  ·rw[b2,b3];exact hI.fr a (by omega)
  ·rw[b2,b3];exact⟨(hI.fr a y).2,fun _=>(hI.fr a y).1⟩
 have e:=hA.kids;unfold rQ kH at e;rw[if_neg h4,if_neg h4]at e;rw[r,←cW];exact(HR G ihG ihF p hI j hR.L.symm F t.kids 0 (i+1) c _ (fun k hk=>⟨eN hs hk,hq k hk,hj k hk⟩) e h1 (by omega) hK (fun k jj s hk _ o=>by
  rw[het]at o⊢;exact hF k jj s hk o) (fun jj _ h=>z (by rw[het]at h;exact⟨h.1,h.2.1⟩)) (fun k _ _=>by rw[het];exact h4)).2
theorem aSj(G:Gw E R){pa:Nat}{s0 s:FS}{w0 w:Wh}(e:pa<E.length)(hI:FI E R pa w0 s0)(h:w0.scope=inN R pa)(b:s0.scopes=(fS E pa).L){x:Nat}(c:x<E.length)(hu:(aH E x).up=(pa:Int))(l:pa<x)(g:KdI E R pa x s0 s)(i:w.scope=inN R x)(h4:(aH E pa).t.op=4):FI E R x w s:=by
 have f:=G.MP e;have o:inN R pa<s0.scopes.length:=by rw[b];exact G.NH pa e
 have j:=aDw h4;rw[j,if_neg (show¬((1:Int)<0)by decide)]at f;refine⟨g.dn.congr (fun d hd h3=>G.AQ c l hu hd h3) rfl,fun a p=>?_,g.us,g.fr,g.nd⟩;rw[i]at p;rw[wB G c hu,FQ G c hu,if_neg (by omega),if_neg (by omega)];have big:(s0.scopes.length:Int)≤a→(a:Int)≤opN R pa→(gM (a:Int) s.cases).getD 0=qC E R pa a∧(gM (a:Int) s.heads).getD false=oS E R pa a:=fun h1 h2=>by obtain⟨q1,q2⟩:=g.ow (a:Int) h1 h2;rw[q1,q2 (.inl (by omega)),VD G (a:=(a:Int)) pa e (by rw[←b];exact h1),UE G (a:=(a:Int)) pa e (by rw[←b];exact h1)];exact⟨rfl,rfl⟩
 rcases G.fw.ZX c hu l p with⟨h1,-⟩|⟨h1,h2⟩|h1
 ·refine big ?_ (by omega);rw[b,h1,f];split<;>omega
 ·rw[f,if_pos h1]at h2;refine big ?_ ?_
  ·rw[b];omega
  ·rw[f,if_pos h1];omega
 ·have hn:=h1.uS;obtain⟨k1,k2⟩:=g.kp (a:Int) (by omega);rw[k1,k2];exact hI.cs a (by rw[h];exact h1)
theorem aKe(G:Gw E R)(ihG:∀k,k.size≤n→dJ Vn k→∀f,k.size≤f→Good E n fu f k)(ihF:∀k,k.size≤n→dJ Vn k→dJ Vj k→∀f,k.size≤f→aC2 E R n fu f k){t:T}(hs:t.size≤n+1)(hq:dJ Vn t)(hj:dJ Vj t){f:Nat}(hf:t.size≤f+1)(bd:t.size≤fu){up:Int}{kid fn i c:Nat}{w:Wh}{s:FS}(hA:AtG E (n+1) t up kid fn i c)(hR:Rel i c s (fS E i))(ae:w.scope=inN R i)(h4:t.op=4)(hu:mR E i=false)(hd:w.decl=false)(hI:FI E R i w s):FO E R i (i+t.size) s (HV (nbS fu f) fu t w s):=by
 have he:=hA.eat;have het:(aH E i).t=t:=by rw[he]
 have hlt:=hA.lt hs;have ap:=hq.here.fn h4;have bf:=KW hA hs h4 ap fu bd;obtain⟨⟨p,d,v⟩,ao,hb⟩:=ap;have au:cQ t 0=p:=by unfold cQ;rw[v];rfl
 have ar:cQ t 1=d:=by unfold cQ;rw[v];rfl
 rw[ar]at hb;rw[au]at ao;have u:p∈t.kids:=by rw[v];exact aE ..
 have q:d∈t.kids:=by rw[v];exact bP (aE ..)
 have hp:=eN hs u;have aa:=eN hs q;have ba:=aS t;have af:=hA.kids;unfold rQ kH at af;rw[if_pos h4,if_pos h4,v]at af;rw[v,bK,bK,show szs []=0 from rfl]at ba;have y:i<E.length:=by omega
 have aq:nmE E i=(dM fu t,1):=by unfold nmE;rw[het];dsimp only;rw[if_neg (by omega),if_pos h4,bf]
 have al:=G.MP y;rw[aq,if_neg (show¬((1:Int)<0)by decide),het]at al;rw[if_pos h4]at he;obtain⟨s2,ak⟩:∃x,(if(!decide (t.s=⟨#[]⟩)&& !jG t 1)=true then kL 5 t.at' { w with fn:=((s.funcs+1:Nat):Int) } [⟨t.s,7,false,0⟩] { s with funcs:=s.funcs+1 }else{ s with funcs:=s.funcs+1 })=x:=⟨_,rfl⟩;obtain⟨w2,ai⟩:∃x,(if(!decide (t.s=⟨#[]⟩)&& !jG t 1)=true then nG { w with fn:=((s.funcs+1:Nat):Int) } { s with funcs:=s.funcs+1 }else{ w with fn:=((s.funcs+1:Nat):Int) })=x:=⟨_,rfl⟩;have aj:jC t=(!decide (t.s=⟨#[]⟩)&& !jG t 1):=by unfold jC;rw[decide_eq_true h4,bR]
 have e1:s2.uses=s.uses∧s2.funcs=c+1∧w2.fn=((c+1:Nat):Int)∧s2.scopes=(if jC t=true then(fS E i).L++[⟨w.scope,((c+1:Nat):Int),5,t.at',[⟨t.s,7,false,0⟩]⟩]else(fS E i).L)∧w2.scope=(if jC t=true then((fS E i).L.length:Int)else w.scope)∧w2.decl=false∧s2.cases=s.cases∧s2.heads=s.heads∧s2.done=s.done:=by rw[aj,←ak,←ai,hR.L,←hR.fc];cases(!decide (t.s=⟨#[]⟩)&& !jG t 1)<;>exact⟨rfl,rfl,rfl,rfl,rfl,hd,rfl,rfl,rfl⟩
 obtain⟨e1,e2,e3,e4,e5,e6,e7,e8,e9⟩:=e1;have an:w.scope=inG E (fS E i).ins (fS E i).ops up kid:=by rw[ae,G.YO y,he]
 have key:bI E (fS E i) i=⟨s2.scopes++[⟨w2.scope,((c+1:Nat):Int),1,t.at',dM fu t⟩],(fS E i).ins++[w.scope],(fS E i).ops++[(s2.scopes.length:Int)],(fS E i).us⟩:=by unfold bI;rw[he];dsimp only;rw[hu,aq,←an,if_pos h4,if_neg (show¬((1:Int)<0)by decide),e4,e5];rfl
 have h1:Rel (i+1) (c+1) (kL 1 t.at' w2 (dM fu t) s2) (fS E (i+1)):=by
  rw[wS,key];refine⟨?_,?_,by simp[hR.li],by simp[hR.lo],e2⟩
  ·unfold kL;dsimp only;rw[e3]
  ·show(fS E i).us=s2.uses.map HS
   rw[e1];exact hR.us
 have b:(nG w2 s2).scope=opN R i∧(nG w2 s2).fn=((c+1:Nat):Int)∧(nG w2 s2).decl=false:=by
  refine⟨?_,e3,e6⟩;show(s2.scopes.length:Int)=_
  rw[al,e4];split<;>simp
 have hK:KdI E R i (i+1) s (kL 1 t.at' w2 (dM fu t) s2):=by
  have hl:s.scopes.length≤s2.scopes.length:=by rw[e4,hR.L];split<;>simp
  refine⟨hI.dn.congr (fun d _ _=>by omega) e9,?_,fun a ha=>?_,fun a _=>?_,?_,fun a ha _=>?_⟩
  ·show Us2 E R (i+1) s2.uses
   rw[e1];exact hI.us.skip hu
  ·show gM a s2.cases=none∧gM a s2.heads=none
   have ha:((s2.scopes++[_]).length:Int)≤a:=ha;rw[aI]at ha;rw[e7,e8];exact hI.fr a (by omega)
  ·show gM a s2.cases=_∧gM a s2.heads=_
   rw[e7,e8];exact⟨rfl,rfl⟩
  ·show NdK s2.heads
   rw[e8];exact hI.nd
  ·show gM a s2.heads=none∧(_→gM a s2.cases=none)
   rw[e7,e8];exact⟨(hI.fr a ha).2,fun _=>(hI.fr a ha).1⟩
 have aw:HV (nbS fu f) fu t w s=(let s4:=nbS fu f p (nG w2 s2) (kL 1 t.at' w2 (dM fu t) s2);if d.op=6∧jG t 128=false then vM (nbS fu f) d.kids (nG w2 s2) s4 else nbS fu f d (nG w2 s2) s4):=by rw[←ak,←ai,←au,←ar];rfl
 rw[aw];clear aw ak ai;generalize kL 1 t.at' w2 (dM fu t) s2=s3 at h1 hK⊢;generalize nG w2 s2=w3 at b⊢;dsimp only;have ay:∀jj,cnE E R i jj=false:=fun jj=>aEt (by rw[het];omega);have av:∀jj,hcE E R i jj=false:=fun jj=>aD4 (by rw[het];omega);have ax:∀jj,w3.decl=true↔DcK E i jj:=fun jj=>by unfold DcK;rw[het,if_neg (by omega),b.2.2];simp[yX];omega
 have a6:=af.hd;obtain⟨hx1,a7⟩:=a6.rA hp;have bh:0≤opN R i:=by rw[al];split<;>omega
 have o:∀{x:Nat},x<E.length→(aH E x).up=(i:Int)→inN R x=opN R i:=fun hx hu=>by
  rw[G.fw.tQ hx hu,if_neg];rintro(h|h)
  ·omega
  ·have:=h.1;rw[het]at this;omega
 obtain⟨r1,K1⟩:=ND G y hI ae hR.L.symm hp (ihG p hp (hq.kid u) f (eN hf u)) (ihF p hp (hq.kid u) (hj.kid u) f (eN hf u)) a6 h1 (by omega) hK b.2.1 (by rw[b.1,o a7 (by rw[hx1])]) (ax 0) (fun h=>by rw[b.2.2]at h;cases h) (by rw[het];omega) (fun h=>by omega);rw[ay,av,aC9]at r1 K1;have ag:=(af.tl hp).hd;generalize c+1+jZ (gE n p (i:Int) 0 (c+1) (i+1) (c+1))=c2 at r1 ag;generalize nbS fu f p w3 s3=s4 at r1 K1⊢;obtain⟨g,r⟩:=ag.rA aa;rw[show i+t.size=i+1+p.size+d.size by omega];rcases hb with⟨ad,az⟩|⟨ad,az⟩
 ·rw[if_pos ⟨ad,az⟩];have ab:(aH E (i+1+p.size)).t=d:=by rw[g]
  have bg:FI E R (i+1+p.size) w3 s4:=aSj G y hI ae hR.L.symm r (by rw[g]) (by omega) K1 (by rw[b.1,o r (by rw[g])]) (by rw[het];exact h4);have ah:nmE E (i+1+p.size)=kT [] 2:=by unfold nmE;rw[g];dsimp only;rw[if_neg (by omega),if_neg (by omega),if_pos ad,if_neg (fun h=>h.2 (by rw[aG,het];exact h4))]
  have a8:mR E (i+1+p.size)=false:=LG g (by dsimp only;omega) (fun h=>by rw[aG,het]at h;omega);have bb:=rX G (w:=w3) (s:=s4) (kind:=2) (l:=[]) r r1.L.symm (by rw[b.1,o r (by rw[g])]) (by rw[ab];omega) (by decide) ah;have a1:=vP G ihG ihF (by omega) (fun k hk=>(hq.kid q).kid hk) (fun k hk=>(hj.kid q).kid hk) (ag.up aa) r1 b.2.1 (by rw[b.1,o r (by rw[g])]) (by omega) (by omega) (by decide) ah a8 bg (fun s k _=>nbS fu f k w3 s) (fun k jj s hk _=>⟨f,w3,by have:=uT (eN hf q) hk;omega,by rw[aEt (by rw[ab];omega),aD4 (by rw[ab];omega)];rfl,b.2.1,by rw[if_pos (.inl (bb.2.2 rfl)),b.1,o r (by rw[g])],by
   unfold DcK;rw[ab,if_neg (by omega),b.2.2];simp[yX];omega,fun h=>by rw[b.2.2]at h;cases h⟩)
  rw[lJ (nbS fu f)]at a1;have hO:=JB a1 (by rw[ab];omega) (by have:=aS d;omega);have bc:iJ 2 d.at' w3 [] s4=s4:=rfl;rw[bc]at hO;refine⟨hO.dn.congr (fun z hz h3=>?_) rfl,hO.us,hO.fr,fun a ha=>?_,hO.nd⟩
  ·have:=G.AQ r (pa:=i) (by omega) (by rw[g]) hz h3;have hne:z≠i:=fun e=>by rw[e,het]at h3;omega
   omega
  ·obtain⟨q1,q2⟩:=hO.kp a (by
    have h5:=r1.L;have h6:=G.zV (E:=E) (R:=R) (i:=i) (j:=i+1+p.size) (by omega);rw[←h5];rw[←hR.L]at ha;omega)
   rw[q1,q2];exact K1.kp a ha
 ·rw[if_neg (fun h=>ad h.1)];obtain⟨-,K2⟩:=ND G y hI ae hR.L.symm aa (ihG d aa (hq.kid q) f (eN hf q)) (ihF d aa (hq.kid q) (hj.kid q) f (eN hf q)) ag r1 (by omega) K1 b.2.1 (by rw[b.1,o r (by rw[g])]) (ax 1) (fun h=>by rw[b.2.2]at h;cases h) (by rw[het];omega) (fun h=>absurd h ad);rw[ay,av,aC9]at K2;exact JB K2 (by rw[het];omega) (by omega)
def JP(w:Wh)(s:FS)(x:ByteArray):FS:=match iD s.scopes w.scope x with
 |some (a,b)=>{ s with done:=iS ((a:Int),(b:Int)) ((gM (a:Int) s.cases).getD 0) s.done }
 |none=>s
theorem HL(w:Wh):∀(xs:List ByteArray) (s:FS),(xs.foldl (JP w) s).scopes=s.scopes∧(xs.foldl (JP w) s).uses=s.uses∧(xs.foldl (JP w) s).cases=s.cases∧(xs.foldl (JP w) s).heads=s.heads
 |[],_=>⟨rfl,rfl,rfl,rfl⟩
 | x::r,s=>by
   obtain⟨h1,h2,h3,h4⟩:=HL w r (JP w s x);rw[bX,h1,h2,h3,h4];unfold JP;cases iD s.scopes w.scope x with
   |none=>exact⟨rfl,rfl,rfl,rfl⟩
   |some ab=>exact⟨rfl,rfl,rfl,rfl⟩
theorem XD(w:Wh)(a b:Nat):∀(xs:List ByteArray) (s:FS),(gM ((a:Int),(b:Int)) (xs.foldl (JP w) s).done=gM ((a:Int),(b:Int)) s.done∧∀x∈xs,iD s.scopes w.scope x≠some (a,b))∨(gM ((a:Int),(b:Int)) (xs.foldl (JP w) s).done=some ((gM (a:Int) s.cases).getD 0)∧∃x∈xs,iD s.scopes w.scope x=some (a,b))
 |[],_=>.inl ⟨rfl,fun x h=>by cases h⟩
 | x :: r,s=>by
   have ih:=XD w a b r (JP w s x);obtain⟨h1,-,h3,-⟩:=HL w [x] s;rw[bX,List.foldl_nil]at h1 h3;rw[h1,h3]at ih;rw[bX];rcases ih with⟨g1,g2⟩|⟨g1,y,g2,g3⟩
   ·by_cases c:iD s.scopes w.scope x=some (a,b)
    ·refine .inr ⟨?_,x,aE ..,c⟩;rw[g1];unfold JP;rw[c];dsimp only;rw[AF,if_pos rfl]
    ·refine .inl ⟨?_,fun y f=>?_⟩
     ·rw[g1];unfold JP;cases hf:iD s.scopes w.scope x with
      |none=>rfl
      | some ab=>
        dsimp only;rw[AF,if_neg];intro e;injection e with e1 e2
        exact c (by rw[hf];congr 1;exact Prod.ext (by omega) (by omega))
     ·rcases aR.1 f with rfl|f
      ·exact c
      ·exact g2 y f
   ·exact .inr ⟨g1,y,bP g2,g3⟩
theorem aHc(G:Gw E R){t:T}{i j:Nat}{w:Wh}{s s2:FS}(het:(aH E i).t=t)(h:i<E.length)(hij:i<j)(r:j≤E.length)(h3:t.op=3)(f:w.scope=inN R i)(hL:s.scopes=(fS E i).L)(hI:FI E R i w s)(g:KdI E R i j s s2)(p:s2.scopes=(fS E j).L):FO E R i j s ((bB (cQ t 0)).foldl (JP w) s2):=by
 obtain⟨p1,p2,p3,p4⟩:=HL w (bB (cQ t 0)) s2;obtain⟨_,_,cL,-,-,o⟩:=G.pre r;rw[←p]at o;have hin:=G.NH i h;have hlt:w.scope<s2.scopes.length:=by rw[f,p];have:=G.zV (E:=E) (R:=R) (i:=i) (j:=j) (by omega);omega
 have c:∀x,iD s2.scopes w.scope x=iD R.L (inN R i) x:=fun x=>by rw[o,←f,FZ _ _ _ hlt]
 refine⟨fun a b hk=>?_,by rw[p2];exact g.us,fun a q=>?_,fun a q=>?_,by rw[p4];exact g.nd⟩
 ·obtain⟨q1,q2⟩:=g.dn a b hk;rcases XD w a b (bB (cQ t 0)) s2 with⟨g1,g2⟩|⟨g1,x,g2,g3⟩
  ·rw[g1];refine⟨fun k hg=>?_,fun hg d y hd hi hf hP=>?_⟩
   ·obtain⟨d,y,a1,a2,a3⟩:=q1 k hg;exact⟨d,y,a1,by omega,a3⟩
   ·by_cases e:d=i
    ·subst e;refine g2 y ?_ (by rw[c];exact hf);have:=hi.2;rw[het]at this;exact this
    ·exact q2 hg d y hd hi hf (by omega)
  ·rw[g1];rw[c]at g3;refine⟨fun k hg=>?_,fun hg=>by cases hg⟩;injection hg with hg
   have l:=tK g3;have hn:=l.uS;obtain⟨k1,-⟩:=g.kp (a:Int) (by rw[hL];omega);refine⟨i,x,h,by omega,⟨by rw[het];exact h3,by rw[het];exact g2⟩,g3,?_⟩;rw[←hg,k1];exact(hI.cs a (by rw[f];exact l)).1
 ·rw[p1]at q;rw[p3,p4];exact g.fr a q
 ·rw[p3,p4];exact g.kp a q
end
end
section
open Go.RowKit Go.Vcg
section
variable{E:List Fl}{R:RS}{n fu:Nat}
theorem aFu(G:Gw E R)(hU:Uq E R)(ihG:∀k,k.size≤n→dJ Vn k→∀f,k.size≤f→Good E n fu f k)(ihF:∀k,k.size≤n→dJ Vn k→dJ Vj k→∀f,k.size≤f→aC2 E R n fu f k)(t:T)(hs:t.size≤n+1)(hq:dJ Vn t)(aj:dJ Vj t)(f:Nat)(hf:t.size≤f+1)(az:t.size≤fu):aC2 E R (n+1) fu (f+1) t:=by
 intro up kid fn i c w s hA hR q g a8 h6 hd aw hI;have he:=hA.eat;have het:(aH E i).t=t:=by rw[he]
 have a1:(aH E i).up=up:=by rw[he]
 have hV:=hq.here;have hJ:=aj.here;have hlt:=hA.lt hs;have ai:=aS t;have v:i<E.length:=by omega
 have y:∀k∈t.kids,k.size≤f:=fun k hk=>eN hf hk;have hu:t.op≠34→mR E i=false:=fun ba=>LG he ba a8;have ad:∀k∈t.kids,dJ Vn k:=fun k hk=>hq.kid hk;have o:∀k∈t.kids,dJ Vj k:=fun k hk=>aj.kid hk;have ae:∀l s,(eF w l s).fn=fn:=fun l s=>by rw[WD,q]
 have p1:=hV.pr;have nod:¬PtB t→w.decl=false:=fun h=>by
  cases hw:w.decl with
  |false=>rfl
  |true=>exact absurd (aw hw) h
 show FO E R i (i+t.size) s (yS (nbS fu f) fu t w s)
 unfold yS;by_cases o34:t.op=34
 ·rw[if_pos o34];have hz:t.size=1:=by rw[ai,hV.nam o34];rfl
  have h1:=aDv G hU hR v (t:=t) (by rw[het];exact⟨rfl,rfl⟩) g (by rw[q,he]) hd hI.dn hI.cs hI.us (by unfold mR;rw[het,decide_eq_true o34];rfl);rw[hz];exact⟨hI.dn.congr (fun d _ h3=>by
   have hne:d≠i:=fun e=>by rw[e,het]at h3;omega
   omega) rfl,h1,hI.fr,fun a _=>⟨rfl,rfl⟩,hI.nd⟩
 rw[if_neg o34];have hu:=hu o34;by_cases o4:t.op=4
 ·rw[if_pos o4];exact aKe (w:={ w with decl:=false }) G ihG ihF hs hq aj hf az hA hR g o4 hu rfl ⟨hI.dn,hI.cs,hI.us,hI.fr,hI.nd⟩
 rw[if_neg o4];have cn0:t.op≠21→∀jj,cnE E R i jj=false:=fun h jj=>aEt (by rw[het];exact h);have aa:t.op≠11∧t.op≠12→∀jj,hcE E R i jj=false:=fun h jj=>aD4 (by rw[het];exact h);have dk0:t.op≠3→¬(60≤t.op∧t.op≤64)→∀(w:Wh) jj,w.decl=false→(w.decl=true↔DcK E i jj):=fun h3 bc w jj hw=>by unfold DcK;rw[het,if_neg h3,hw];simp[yX];omega
 by_cases o6:t.op=6
 ·rw[if_pos o6];have u:nmE E i=kT (bF t.kids true []) 2:=by unfold nmE;rw[het];dsimp only;rw[if_neg p1,if_neg o4,if_pos o6,a1,if_pos (h6 o6)]
  have p:=nod (by unfold PtB;omega);obtain⟨ss,-⟩:=rX G (w:=w) (s:=s) v hR.L.symm g (by rw[het];exact o4) (by decide) u;have hK:=vP G ihG ihF hs ad o hA hR q g o4 (by omega) (by decide) u hu hI (fun x k _=>nbS fu f k (eF w (bF t.kids true []) s) x) (fun k jj x hk _=>⟨f,eF w (bF t.kids true []) s,y k hk,by rw[cn0 (by omega),aa (by omega)];rfl,ae _ _,by rw[ss];simp[show¬t.op=21 by omega],dk0 (by omega) (by omega) _ _ (by rw[oR];exact p),fun h=>by rw[oR,p]at h;cases h⟩);rw[lJ (nbS fu f)]at hK;exact JB hK (by rw[het];omega) (by omega)
 rw[if_neg o6];by_cases o21:t.op=21
 ·rw [if_pos o21];obtain⟨l,hl⟩:∃l,(t.kids.drop 1).foldl (fun l k=>bF k.kids true l) []=l:=⟨_,rfl⟩;have hne:=BU (hV.one (by omega));have u:nmE E i=kT l 2:=by unfold nmE;rw[het];dsimp only;rw[if_neg p1,if_neg o4,if_neg o6,if_pos o21,hl]
  have p:=nod (by unfold PtB;omega);obtain⟨ss,-⟩:=rX G (w:=w) (s:=s) v hR.L.symm g (by rw[het];exact o4) (by decide) u;have aq:=G.NH i v;have ah:0≤opN R i→inN R i<opN R i:=fun h=>by
   have:=G.MP v;rw[this]at h⊢;split at h
   ·omega
   ·rename_i h2;rw[if_neg h2];split<;>omega
  have hK:=vP G ihG ihF hs ad o hA hR q g o4 (by omega) (by decide) u hu hI (fun x k jj=>if jj=0 then nbS fu f k w x else nbS fu f k (eF w l s) (if(eF w l s).scope≠w.scope then{ x with cases:=iS (eF w l s).scope ((jj-1:Nat):Int) x.cases }else x)) (fun k jj x hk _=>by
   by_cases z:jj=0
   ·refine⟨f,w,y k hk,?_,q,by rw[if_pos (.inr ⟨o21,z⟩)];exact g,dk0 (by omega) (by omega) _ _ p,fun h=>by rw[p]at h;cases h⟩;have e:cnE E R i jj=false:=decide_eq_false fun e=>e.2.2 z;rw[if_pos z,e,aa (by omega)];rfl
   ·refine⟨f,eF w l s,y k hk,?_,ae _ _,by rw[ss];simp[z],dk0 (by omega) (by omega) _ _ (by rw[oR];exact p),fun h=>by rw[oR,p]at h;cases h⟩;rw[if_neg z,aa (by omega)];by_cases h0:opN R i<0
    ·have e:cnE E R i jj=false:=decide_eq_false fun e=>by omega
     rw[e,if_neg (by rw[ss,if_pos h0,g];simp)];rfl
    ·have e:cnE E R i jj=true:=decide_eq_true ⟨by rw[het];exact o21,by omega,z⟩;have:=ah (by omega);rw[if_neg h0]at ss;rw[e,if_pos (by rw[ss,g];omega),ss];rfl)
  have hO:=JB hK (by rw[het];omega) (by omega);rw[hne,oX,if_pos rfl]at hO;unfold rN;rw[hl];dsimp only;rw[sI,AJ];rw[qW (G:=fun s k j=>nbS fu f k (eF w l _) (if(eF w l _).scope≠w.scope then{ s with cases:=iS (eF w l _).scope ((j-1:Nat):Int) s.cases }else s))]at hO
  ·exact hO
  ·intro k jj x z;rw[if_neg (by omega)]
 rw[if_neg o21];by_cases ol:t.op=10∨t.op=11∨t.op=12
 ·rw [if_pos ol];obtain⟨l,hl⟩:∃l,bF [cQ t 0] false []=l:=⟨_,rfl⟩;have ao:(if(decide ((cQ t 0).op=2)&& !decide ((cQ t 0).n=0))=true then iJ 3 t.at' w (eM (cQ t 0) []) s else s)=iJ 3 t.at' w l s∧(if(decide ((cQ t 0).op=2)&& !decide ((cQ t 0).n=0))=true then eF w (eM (cQ t 0) []) s else w)=eF w l s:=by
   rw[←hl,aC8];by_cases h2:(cQ t 0).op=2∧(cQ t 0).n≠0
   ·rw[if_pos h2,decide_eq_true h2.1,decide_eq_false h2.2];exact⟨rfl,rfl⟩
   ·rw[if_neg h2,if_neg (by
     rw[aM];intro h;exact h2 ⟨of_decide_eq_true h.1,by simpa using h.2⟩),if_neg (by
     rw[aM];intro h;exact h2 ⟨of_decide_eq_true h.1,by simpa using h.2⟩)]
    exact⟨rfl,rfl⟩
  have u:nmE E i=kT l 3:=by unfold nmE;rw[het];dsimp only;rw[if_neg p1,if_neg o4,if_neg o6,if_neg o21,if_pos ol,hl]
  have p:=nod (by unfold PtB;omega);obtain⟨ss,-⟩:=rX G (w:=w) (s:=s) v hR.L.symm g (by rw[het];exact o4) (by decide) u;have aq:=G.NH i v;have ah:0≤opN R i→inN R i<opN R i:=fun h=>by
   have:=G.MP v;rw[this]at h⊢;split at h
   ·omega
   ·rename_i h2;rw[if_neg h2];split<;>omega
  have hK:=vP G ihG ihF hs ad o hA hR q g o4 (by omega) (by decide) u hu hI (fun x k jj=>if jj=1∧t.op≠10∧(eF w l s).scope≠w.scope then
   { nbS fu f k (eF w l s) { x with heads:=iS (eF w l s).scope true x.heads }with heads:=tJ (eF w l s).scope (nbS fu f k (eF w l s) { x with heads:=iS (eF w l s).scope true x.heads }).heads }else nbS fu f k (eF w l s) x) (fun k jj x hk _=>by
   refine⟨f,eF w l s,y k hk,?_,ae _ _,by rw[ss];simp[show¬t.op=21 by omega],dk0 (by omega) (by omega) _ _ (by rw[oR];exact p),fun h=>by rw[oR,p]at h;cases h⟩;dsimp only;rw[cn0 (by omega)];by_cases h0:opN R i<0
   ·have e:hcE E R i jj=false:=decide_eq_false fun e=>by omega
    rw[e,if_neg (fun h=>h.2.2 (by rw[ss,if_pos h0,g]))];rfl
   ·have:=ah (by omega);rw[if_neg h0]at ss;by_cases z:jj=1∧t.op≠10
    ·have e:hcE E R i jj=true:=decide_eq_true ⟨by rw[het];omega,by omega,z.1⟩;rw[e,if_pos ⟨z.1,z.2,by rw[ss,g];omega⟩,ss];rfl
    ·have e:hcE E R i jj=false:=decide_eq_false fun e=>z ⟨e.2.2,by have:=e.1;rw[het]at this;omega⟩;rw[e,if_neg (fun h=>z ⟨h.1,h.2.1⟩)];rfl)
  have hO:=JB hK (by rw[het];omega) (by omega);unfold zS;dsimp only;rw[ao.1,ao.2,sI];exact hO
 rw[if_neg ol];by_cases o20:t.op=20
 ·rw[if_pos o20];have u:nmE E i=kT (dT 5 (bB (cQ t 0)) []) 4:=by unfold nmE;rw[het];dsimp only;rw[if_neg p1,if_neg o4,if_neg o6,if_neg o21,if_neg ol,if_pos o20]
  have p:=nod (by unfold PtB;omega);obtain⟨ss,-⟩:=rX G (w:=w) (s:=s) v hR.L.symm g (by rw[het];exact o4) (by decide) u;have hK:=vP G ihG ihF hs ad o hA hR q g o4 (by omega) (by decide) u hu hI (fun x k _=>nbS fu f k (eF w (dT 5 (bB (cQ t 0)) []) s) x) (fun k jj x hk _=>⟨f,eF w (dT 5 (bB (cQ t 0)) []) s,y k hk,by rw[cn0 (by omega),aa (by omega)];rfl,ae _ _,by rw[ss];simp[o21],dk0 (by omega) (by omega) _ _ (by rw[oR];exact p),fun h=>by rw[oR,p]at h;cases h⟩);rw[lJ (nbS fu f)]at hK;exact JB hK (by rw[het];omega) (by omega)
 rw[if_neg o20];have u:=zP het ⟨p1,o4,o6,o21,fun h=>ol (.inl h),fun h=>ol (.inr (.inl h)),fun h=>ol (.inr (.inr h)),o20⟩;obtain⟨-,ab⟩:=rX G (w:=w) (s:=s) v hR.L.symm g (by rw[het];exact o4) (by decide) u;have ab:opN R i<0:=ab.2 rfl;by_cases o3:t.op=3
 ·rw[if_pos o3];have hne:=BU (hV.one (by omega));have p:=nod (by unfold PtB;omega);obtain⟨a,r,a6,a7,-⟩:=hJ.dc o3;have hin:w.scope=inG E (fS E i).ins (fS E i).ops up kid:=by rw[g,G.YO v,he]
  have ar:∀(w:Wh) jj,(w.decl=true↔jj=0)→(w.decl=true↔DcK E i jj):=fun w jj h=>by unfold DcK;rw[het,if_pos o3];exact h
  have hK:=vP (l:=[]) (kind:=0) G ihG ihF hs ad o hA hR q g o4 (by omega) (by decide) u hu hI (fun x k jj=>if jj=0 then nbS fu f k { w with decl:=true } x else nbS fu f k w x) (fun k jj x hk o=>by
   by_cases z:jj=0
   ·refine⟨f,{ w with decl:=true },y k hk,by rw[if_pos z,cn0 (by omega),aa (by omega)];rfl,q,by rw[if_pos (.inl ab)];exact g,ar _ _ ⟨fun _=>z,fun _=>rfl⟩,fun _=>?_⟩;rw[z,a6]at o;injection o with o
    rw[←o];exact a7
   ·exact⟨f,w,y k hk,by rw[if_neg z,cn0 (by omega),aa (by omega)];rfl,q,by rw[if_pos (.inl ab)];exact g,ar _ _ (by rw[p];exact⟨(fun h=>by cases h),fun h=>absurd h z⟩),fun h=>by rw[p]at h;cases h⟩)
  obtain⟨g1,-⟩:=pC (l:=[]) (kind:=0) ihG hs hq hA hR q hin o4 (by omega) (by decide) u hu (fun x k jj=>if jj=0 then nbS fu f k { w with decl:=true } x else nbS fu f k w x) (fun _=>w.scope) (fun jj=>by rw[if_neg (by omega)];rfl) (fun k jj x hk=>by
   split
   ·exact⟨f,{ w with decl:=true },x,y k hk,Eqv.refl _,Eqv.refl _,q,rfl⟩
   ·exact⟨f,w,x,y k hk,Eqv.refl _,Eqv.refl _,q,rfl⟩)
  rw[WA,show iJ 0 t.at' w [] s=s from rfl,hne,oX,if_pos rfl,qW (G:=fun s k _=>nbS fu f k w s) _ _ _ (fun k jj x z=>by rw[if_neg (by omega)]),lJ (nbS fu f)]at g1;have av:iJ 0 t.at' w [] s=s:=rfl;rw[av,hne,oX,if_pos rfl]at hK;rw[qW (G:=fun s k _=>nbS fu f k w s) _ _ _ (fun k jj x z=>by rw[if_neg (by omega)]),lJ (nbS fu f)]at hK;exact aHc G het v (by omega) (by omega) o3 g hR.L.symm hI hK g1.L.symm
 rw[if_neg o3];by_cases o39:t.op=39
 ·rw[if_pos o39];have p:=nod (by unfold PtB;omega);by_cases n3:t.n=3
  ·rw[if_pos n3];obtain⟨k,hk,k31,kk⟩:=hV.sht o39 n3;have ay:cQ t 0=k:=by unfold cQ;rw[hk];rfl
   have hin:w.scope=inG E (fS E i).ins (fS E i).ops up kid:=by rw[g,G.YO v,he]
   obtain⟨h1,-,-⟩:=BW (l:=[]) (kind:=0) hA hR q hin o4 (by decide) u hu;rw[←wS]at h1;have ak:=hA.kids;unfold rQ kH at ak;rw[if_neg o4,if_neg o4,hk]at ak;have ax:k∈t.kids:=by rw[hk];exact aE ..
   obtain⟨hx1,af⟩:=ak.hd.rA (eN hs ax);have ag:(aH E (i+1)).up=(i:Int):=by rw[hx1]
   have an:k.size=1:=by rw[aS,kk];rfl
   rw[hk,bK,show szs []=0 from rfl,an]at ai;have ap:inN R (i+1)=inN R i:=by rw[G.fw.tQ af ag,if_pos (.inl ab)]
   have au:¬GW E (i+1):=aEr G af ag (by rw[het];omega) (by rw[het];simp[yX];omega);have h2:=aDv G hU (t:=k) (w:=w) h1 af (by rw[hx1];exact⟨rfl,rfl⟩) (by rw[ap];exact g) (by rw[q,hx1]) (by rw[p];exact⟨(fun h=>by cases h),fun h=>absurd h au⟩) (hI.dn.congr (fun d hd h3=>by
    have:=G.AQ af (pa:=i) (by omega) ag hd h3;omega) rfl) (fun a ha=>by
    have hne:opN R i≠(a:Int):=by omega
    rw[wB G af ag,FQ G af ag,if_neg (fun h=>hne h.1),if_neg (fun h=>hne h.1)];exact hI.cs a ha) (hI.us.skip hu) (by
    unfold mR;rw[hx1];dsimp only;rw[aG,het,decide_eq_true o39,decide_eq_true n3,decide_eq_true (show(0:Int)≤(i:Int)by omega)];simp)
   rw[ay,ai];exact⟨hI.dn.congr (fun d hd h3=>by
    have hne:d≠i:=fun e=>by rw[e,het]at h3;omega
    have bb:d≠i+1:=fun e=>by rw[e,hx1]at h3;dsimp only at h3;omega
    omega) rfl,h2,hI.fr,fun a _=>⟨rfl,rfl⟩,hI.nd⟩
  ·rw[if_neg n3];have hK:=vP (l:=[]) (kind:=0) G ihG ihF hs ad o hA hR q g o4 (fun h=>n3 h.2) (by decide) u hu hI (fun x k _=>nbS fu f k w x) (fun k jj x hk _=>⟨f,w,y k hk,by rw[cn0 (by omega),aa (by omega)];rfl,q,by rw[if_pos (.inl ab)];exact g,dk0 (by omega) (by omega) _ _ p,fun h=>by rw[p]at h;cases h⟩);rw[lJ (nbS fu f)]at hK;exact JB hK (by rw[het];omega) (by omega)
 rw[if_neg o39];have hK:=vP (l:=[]) (kind:=0) G ihG ihF hs ad o hA hR q g o4 (fun h=>o39 h.1) (by decide) u hu hI (fun x k jj=>if t.op=60∨t.op=61∨t.op=64∨(t.op=63∧jj=0)∨(t.op=62∧jj=1)then nbS fu f k w x else nbS fu f k { w with decl:=false } x) (fun k jj x hk o=>by
  by_cases hp:t.op=60∨t.op=61∨t.op=64∨(t.op=63∧jj=0)∨(t.op=62∧jj=1)
  ·refine⟨f,w,y k hk,by rw[if_pos hp,cn0 (by omega),aa (by omega)];rfl,q,by rw[if_pos (.inl ab)];exact g,?_,fun _=>?_⟩
   ·unfold DcK;rw[het,if_neg o3,show yX t.op jj=true from decide_eq_true (by omega)];simp[hd]
   ·rcases hp with h|h|h|h|h
    ·exact hJ.pa (by omega) k hk
    ·exact hJ.pa (by omega) k hk
    ·exact hJ.pa (by omega) k hk
    ·obtain⟨a,b,al,ha,-⟩:=hJ.df h.1;rw[h.2,al]at o;injection o with o
     rw[←o];exact ha
    ·obtain⟨a,b,al,-,hb⟩:=hJ.pp h.1;rw[h.2,al]at o;injection o with o
     rw[←o];exact hb
  ·refine⟨f,{ w with decl:=false },y k hk,by rw[if_neg hp,cn0 (by omega),aa (by omega)];rfl,q,by rw[if_pos (.inl ab)];exact g,?_,fun h=>by cases h⟩;unfold DcK;rw[het,if_neg o3,show yX t.op jj=false from decide_eq_false (by omega)];simp)
 have hO:=JB hK (by rw[het];omega) (by omega);unfold uQ;rw[sI];exact hO
theorem aAb(G:Gw E R)(b:Uq E R):∀(n:Nat),n≤fu→∀(k:T),k.size≤n→dJ Vn k→dJ Vj k→∀f,k.size≤f→aC2 E R n fu f k
 |0,_,k,h,_,_,_,_=>by have:=aS k;omega
 | n+1,hn,k,hk,hq,a,f,hf=>by have c:=aS k;obtain⟨f,rfl⟩:∃x,f=x+1:=⟨f-1,by omega⟩;exact aFu G b (fun k hk hq f hf=>OW n (by omega) k hk hq f hf) (fun k hk hq a f hf=>aAb G b n (by omega) k hk hq a f hf) k hk hq a f hf (by omega)
end
end
end Go.Proofs.YtlllalmkkaolfaaGreatDoor
