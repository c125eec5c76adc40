/- Package scope: a well-formed program's flat list has what is asked of it; the finder's uses over the whole program. -/
import Derived.Test.YtlllalmkkaolfaaGreatDoorUaw
set_option maxRecDepth 20000
set_option maxHeartbeats 2000000
namespace Go.Proofs.YtlllalmkkaolfaaGreatDoor
section
open Go.RowKit Go.Vcg
theorem aTa{t:T}{d:Nat}{s:Bool}(h:Rt t d s):Vk t:=by
 refine⟨aTb h,?_,(YB h).vn,UR h,fun h4 h6=>?_,fun f=>(aPl h (by omega)).sht f⟩
 ·cases h with
  | mk hd hn hk hr=>
    have:=(xC _).1 hn.1;unfold knR at this;omega
 ·obtain⟨⟨p,b,c⟩,-,hb⟩:=UR h h4;have e:cQ t 1=b:=by unfold cQ;rw[c];rfl
  rw[e]at h6 hb⊢;cases h with
  | mk hd hn hk hr=>
    unfold bD stB at hk;rw[if_pos (by omega),if_neg (by omega),if_neg (by omega),if_neg (by omega),if_pos h4]at hk;obtain⟨p',r,h1,i,h2⟩:=iU hk;obtain⟨b',r2,h3,a,h5⟩:=iU h2;have g:=rJ h5;subst g h3;rw[c]at h1;cases h1;unfold xN at a;split at a
    ·exact kC a
    ·exact absurd (by simpa[ofT]using a) h6
theorem aPe(t:T):∀(d:Nat) (s:Bool),Rt t d s→dJ Vk t:=T.aBy (p:=fun t=>∀(d:Nat) (s:Bool),Rt t d s→dJ Vk t) (fun t ih d s h=>by
 refine .mk (aTa h) fun k hk=>?_;obtain⟨i,hi⟩:=List.mem_iff_getElem?.1 hk;cases h with
 |mk _ _ _ hr=>exact ih k hk _ _ (hr i k hi)) t
theorem aPf{t:T}(h:dJ Vk t):dJ Vj t:=h.imp' fun _ h=>h.vj
theorem RB{E:List Fl}{n:Nat}{pa:Int}{fn:Nat}:∀(ks:List T) (j x0 c m:Nat) (v:T),(∀k∈ks,k.size≤n)→qF E n ks pa j fn x0 c→ks[m]? =some v→∃x,x0≤x∧x<E.length∧(aH E x).up=pa∧(aH E x).kid=j+m∧(aH E x).t=v
 |[],_,_,_,_,_,_,_,h=>by simp at h
 | k::r,j,x0,c,0,v,hk,hA,h=>by
   have h:some k=some v:=h;injection h with h
   subst h;obtain⟨h1,h2⟩:=hA.hd.rA (hk k (aE ..));exact⟨x0,aC _,h2,by rw[h1],by rw[h1];rfl,by rw[h1]⟩
 | k::r,j,x0,c,m+1,v,hk,hA,h=>by rw[bW]at h;obtain⟨x,g1,g2,g3,g4,g5⟩:=RB r (j+1) _ _ m v (fun k h=>hk k (bP h)) (hA.tl (hk k (aE ..))) h;exact⟨x,by omega,g2,g3,by omega,g5⟩
theorem QZ{E:List Fl}{n:Nat}(ih:∀(t:T) (up:Int) (kid fn i c:Nat),t.size≤n→AtG E n t up kid fn i c→∀(x p:Nat),i<x→x<i+t.size→(aH E x).up=(p:Int)→(aH E p).t.kids[(aH E x).kid]? =some (aH E x).t)(pa fn:Nat){t:T}(ht:(aH E pa).t=t):∀(ks:List T) (j x0 c:Nat),(∀k∈ks,k.size≤n)→t.kids.drop j=ks→qF E n ks (pa:Int) j fn x0 c→∀(x p:Nat),x0≤x→x<x0+szs ks→(aH E x).up=(p:Int)→(aH E p).t.kids[(aH E x).kid]? =some (aH E x).t
 | [],_,_,_,_,_,_,x,p,h1,h2,_=>by rw[show szs []=0 from rfl]at h2;omega
 | k ::r,j,x0,c,hk,hd,hA,x,p,h1,h2,b=>by
   have a:=hk k (aE ..);rw[bK]at h2;by_cases f:x<x0+k.size
   ·by_cases e:x=x0
    ·subst e;obtain⟨h3,-⟩:=hA.hd.rA a;rw[h3]at b⊢;obtain rfl:pa=p:=by dsimp only at b;omega
     dsimp only;rw[ht];have:=congrArg (fun l=>l[0]?) hd;rw[fP,bZ]at this;rw[this];rfl
    ·exact ih k _ _ _ _ _ a hA.hd x p (by omega) f b
   ·refine QZ ih pa fn ht r (j+1) _ _ (fun k h=>hk k (bP h)) ?_ (hA.tl a) x p (by omega) (by omega) b;have:=congrArg List.tail hd;rw[List.tail_drop]at this;exact this
theorem YH{E:List Fl}:∀(n:Nat) (t:T) (up:Int) (kid fn i c:Nat),t.size≤n→AtG E n t up kid fn i c→∀(x p:Nat),i<x→x<i+t.size→(aH E x).up=(p:Int)→(aH E p).t.kids[(aH E x).kid]? =some (aH E x).t
 |0,t,_,_,_,_,_,h,_,_,_,_,_,_=>by have:=aS t;omega
 | n+1,t,up,kid,fn,i,c,hs,hA,x,p,h1,h2,b=>by have a:=aS t;exact QZ (YH n) i _ (t:=t) (by rw[hA.eat]) t.kids 0 (i+1) _ (fun k hk=>eN hs hk) rfl hA.kids x p (by omega) (by omega) b
structure Gp (E:List Fl) (R:RS) (t:T) (f:Nat):Prop where
 gw:Gw E R
 at0:AtG E (f+1) t (-1) 0 0 0 0
 sz:t.size≤f+1
 len:E.length=t.size
 vk:dJ Vk t
 op:t.op=1
 kidp:∀(o j:Nat) (v:T),o<E.length→(aH E o).t.kids[j]? =some v→∃x,o<x∧x<E.length∧(aH E x).up=(o:Int)∧(aH E x).kid=j∧(aH E x).t=v
theorem AtG.more{E:List Fl}{n:Nat}{t:T}{up:Int}{kid fn i c:Nat}(h:AtG E n t up kid fn i c)(hs:t.size≤n):∀m,AtG E (n+m) t up kid fn i c
 |0=>h
 |m+1=>(h.more hs m).up (by omega)
theorem aJ1{t:T}(i:t.op=1)(u:rtB t 1 false=true)(f:Nat)(hf:t.size≤f+1):Gp (eO t) (fS (eO t) t.size) t f:=by
 have hR:=iL u;have aa:=aS t;have hlen:=xG t;have hA:AtG (eO t) t.size t (-1) 0 0 0 0:=⟨[],[],by unfold eO;simp,rfl,rfl⟩;have g:=aPe t _ _ hR;have l:∀x<t.size,Lk (eO t) x:=ZI t;obtain⟨n,hn⟩:∃n,t.size=n+1:=⟨t.size-1,by omega⟩;have e:AtG (eO t) (n+1) t (-1) 0 0 0 0:=by rw[←hn];exact hA
 have he:=e.eat;have r:=e.kids;generalize eO t=E at hlen hA e he r l⊢;have a:=FH t.size t (-1) 0 0 0 0 (aC _) hA;have b:∀x<E.length,(aH E x).up<x:=fun x c=>by
  rcases Nat.eq_zero_or_pos x with rfl|h
  ·rw[he];dsimp only;omega
  ·obtain⟨p,h1,-,h2,-⟩:=a x h (by omega);omega
 have hsub:∀x,x<E.length→∃n' t' up' kid' fn' c',t'.size≤n' ∧dJ Vk t' ∧AtG E n' t' up' kid' fn' x c' :=fun x c=>SZ t.size t _ _ _ _ _ (aC _) g hA x (by omega) (by omega);have z:Fw E (fS E t.size):=by
  refine⟨by rw[hlen];exact Arr.run b t.size (by omega),fun x c=>l x (by omega),by omega,by rw[he];exact⟨i,rfl⟩,fun x h0 c=>?_,fun x h0 c=>?_⟩
  ·obtain⟨p,h1,-⟩:=a x h0 (by omega);refine⟨by omega,?_⟩;obtain⟨n',t',up',kid',fn',c',g1,g2,g3⟩:=LL (q:=Vn) (SZ n) ((0:Nat):Int) _ t.kids 0 1 _ (fun k hk=>⟨eN (by omega) hk,UB hR k hk⟩) r x (by omega) (by omega);obtain⟨e1,-⟩:=g3.rA g1;rw[e1];exact g2.here.pr
  ·obtain⟨p,h1,-,-,h2,h3⟩:=a x h0 (by omega);rw[h1,aG];exact⟨h2,h3⟩
 refine⟨⟨z,by rw[hlen],fun d x h1 h2 h3=>?_,b,fun x c=>?_,fun x p c w=>?_⟩,?_,hf,hlen,g,i,fun o j v ho hv=>?_⟩
 ·obtain⟨n',t',up',kid',fn',c',g1,g2,g3⟩:=hsub d (by omega);obtain⟨e1,-⟩:=g3.rA g1;rw[e1]at h2;dsimp only at h2;have:=aS t';obtain⟨p,h4,h5,-⟩:=FH n' t' _ _ _ _ _ g1 g3 x h1 (by omega);omega
 ·obtain⟨n',t',up',kid',fn',c',g1,g2,g3⟩:=hsub x c;obtain⟨e1,-⟩:=g3.rA g1;rw[e1];exact g2.here
 ·rcases Nat.eq_zero_or_pos x with rfl|h0
  ·rw[he]at w;dsimp only at w;omega
  ·exact YH t.size t _ _ _ _ _ (aC _) hA x p h0 (by omega) w
 ·obtain⟨m,hm⟩:=Nat.exists_eq_add_of_le hf;rw[hm];exact hA.more (aC _) m
 ·obtain⟨n',t',up',kid',fn',c',g1,g2,g3⟩:=hsub o ho;obtain⟨e1,-⟩:=g3.rA g1;have:=aS t';obtain⟨n',rfl⟩:∃y,n' =y+1:=⟨n' -1,by omega⟩;rw[e1]at hv;obtain⟨x,q1,q2,q3,q4,q5⟩:=RB t'.kids 0 (o+1) _ j v (fun k hk=>eN g1 hk) g3.kids hv;exact⟨x,by omega,q2,q3,by omega,q5⟩
theorem aHz{E:List Fl}{t:T}(h:(aH E 0).t=t)(hu:(aH E 0).up= -1)(a:t.op=1):mR E 0=false:=by
 unfold mR;rw[h,hu,decide_eq_false (show¬t.op=34 by omega),decide_eq_false (show¬(0:Int)≤ -1 by decide)];rfl
theorem aQ6{t:T}(e:t.op=1)(j:rtB t 1 false=true)(f:Nat)(hf:t.size≤f)(w:Uq (eO t) (fS (eO t) t.size)):Us2 (eO t) (fS (eO t) t.size) t.size (gS f t).uses:=by
 have v:=aS t;obtain⟨n,hn⟩:∃n,t.size=n+1:=⟨t.size-1,by omega⟩;have P:=aJ1 e j n (by omega);have hR:=iL j;have hlen:=P.len;have r:∀k∈t.kids,dJ Vn k:=UB hR;have u:∀k∈t.kids,dJ Vj k:=fun k hk=>aPf (P.vk.kid hk);generalize eO t=E at P w hlen⊢;generalize aa:fS E t.size=R at P w⊢;have G:=P.gw;have hA:=P.at0;have he:=hA.eat;have het:(aH E 0).t=t:=by rw[he]
 have g:=hA.kids;unfold rQ kH at g;rw[if_neg (by omega)]at g;have hu:mR E 0=false:=aHz het (by rw[he]) e;have c:jC t=false:=by unfold jC;rw[decide_eq_false (by omega)];rfl
 have p:nmE E 0=(bF t.kids false [],0):=by unfold nmE;rw[het];dsimp only;rw[if_pos e]
 have q:0<E.length:=by omega
 have l:opN R 0=0:=by rw[G.MP q,p,if_neg (by dsimp only;omega),het,c];rfl
 have key:bI E kO 0=⟨[⟨-1,0,0,t.at',bF t.kids false []⟩],[-1],[0],[]⟩:=by unfold bI;rw[he];dsimp only;rw[hu,p,c,if_neg (show¬t.op=4 by omega),if_neg (show¬((0:Int)<0)by decide)];rfl
 have h1:Rel 1 0 (mL t) (fS E 1):=by rw[show fS E 1=bI E kO 0 from rfl,key];exact⟨rfl,rfl,rfl,rfl,rfl⟩
 have o:∀(s:FS),s.done=[]→aAe E R (fun d=>(aH E d).last<0) s:=fun s hs a b _=>by rw[hs];exact⟨(fun k h=>by cases h),fun _ d y _ _ _ h=>by omega⟩
 have hI:FI E R 0 ⟨-1,0,false⟩ ⟨[],[],0,[],[],[]⟩:=⟨o _ rfl,fun a z=>by have:=z.uS;dsimp only at this;omega,.nil,fun a _=>⟨rfl,rfl⟩,pA⟩;have hK:KdI E R 0 1 ⟨[],[],0,[],[],[]⟩ (mL t):=by refine⟨(o (mL t) rfl).congr (fun d _ _=>by omega) rfl,?_,fun a _=>⟨rfl,rfl⟩,fun a _=>⟨rfl,rfl⟩,pA,fun a _ _=>⟨rfl,fun _=>rfl⟩⟩;exact Us2.skip (E:=E) (R:=R) (us:=[]) .nil hu
 have hg:=(HR (n:=n) (fu:=f) G (fun k hk hq f' i=>OW n (by omega) k hk hq f' i) (fun k hk hq x f' i=>aAb G w n (by omega) k hk hq x f' i) (w0:=⟨-1,0,false⟩) q hI G.fw.in0.symm rfl (fun s k _=>nbS f f k ⟨0,0,false⟩ s) t.kids 0 1 0 (mL t) (fun k hk=>⟨eN (by omega) hk,r k hk,u k hk⟩) g h1 (by omega) hK (fun k jj s hk _ _=>⟨f,⟨0,0,false⟩,by have:=eN (n:=n) (by omega) hk;omega,by rw[aEt (by rw[het];omega),aD4 (by rw[het];omega)];rfl,rfl,by rw[het,if_neg (by omega),l],by
  unfold DcK;rw[het,if_neg (by omega)];simp[yX,e],fun h=>by cases h⟩) (fun jj _ h=>by rw[het]at h;omega) (fun k _ _=>by rw[het];omega)).2
 rw[lJ (nbS f f)]at hg;rw[show t.size=1+szs t.kids from v];exact hg.us
def Src(P:ByteArray→Prop)(l:List Bd):Prop:=∀β∈l,(β.kind=1∨β.kind=2)→P β.name
section
variable{P:ByteArray→Prop}
theorem TD{y:ByteArray}{k:Int}(c:(k=1∨k=2)→P y):∀{l:List Bd},Src P l→Src P (jY y k l)
 | [],_=>fun β a hk=>by unfold jY at a;rw[aJ.1 a]at hk⊢;exact c hk
 | b ::r,h=>by
   have hr:Src P r:=fun β a=>h β (bP a);unfold jY;by_cases hb:b.name=y
   ·rw[if_pos hb];by_cases h3:k=3
    ·rw[if_pos h3];intro β a hk;rcases aR.1 a with rfl|a
     ·dsimp only at hk;omega
     ·exact hr β a hk
    ·rw[if_neg h3];exact h
   ·rw[if_neg hb];intro β a hk;rcases aR.1 a with rfl|a
    ·exact h β (aE ..) hk
    ·exact TD c hr β a hk
theorem uM{α:Type}{g:List Bd→α→List Bd}:∀(zs:List α) (l:List Bd),(∀a∈zs,∀l,Src P l→Src P (g l a))→Src P l→Src P (zs.foldl g l)
 |[],_,_,h=>h
 |a::r,l,hg,h=>uM r _ (fun b hb=>hg b (bP hb)) (hg a (aE ..) l h)
theorem LO{k:Int}{xs:List ByteArray}{l:List Bd}(a:(k=1∨k=2)→∀x∈xs,P x)(h:Src P l):Src P (dT k xs l):=uM xs l (fun x b l h=>TD (fun hk=>a hk x b) h) h
theorem WB{t:T}{l:List Bd}(a:t.n≠0→∀k∈t.kids,∀x∈bB (cQ k 0),P x)(h:Src P l):Src P (eM t l):=uM (g:=fun l d=>dT t.n (bB (cQ d 0)) l) t.kids l (fun k hk l h=>LO (fun hn=>a (by omega) k hk) h) h
theorem wT{ks:List T}{fs:Bool}{l:List Bd}(a:∀v∈ks,v.op=2→v.n≠0→∀k∈v.kids,∀x∈bB (cQ k 0),P x)(h:Src P l):Src P (bF ks fs l):=uM ks l (fun v hv l h=>by
 split
 ·rename_i h2;exact WB (fun _=>a v hv h2.1 h2.2) h
 split
 ·exact TD (fun hk=>by omega) h
 ·exact h) h
theorem BF:∀(f:Nat) (t:T) (l:List Bd),Src P l→Src P (dR f t l)
 |0,_,_,h=>h
 | f +1,t,l,h=>by
   unfold dR;split
   ·exact h
   ·refine uM _ _ (fun k _ l h=>BF f k l h) ?_;split
    ·rename_i h2;exact WB (fun hn=>absurd h2.2 hn) h
    ·exact h
theorem aAp{f:Nat}{t:T}(c:(cQ t 1).op=6→∀v∈(cQ t 1).kids,v.op=2→v.n≠0→∀k∈v.kids,∀x∈bB (cQ k 0),P x):Src P (dM f t):=by
 have h0:Src P (dR f (cQ t 0) (dT 4 (bB (cQ t 0)) [])):=BF _ _ _ (LO (fun h=>by omega) fun β a=>by cases a);unfold dM;dsimp only;split
 ·exact BF _ _ _ h0
 ·rename_i h6;refine uM (g:=fun l k=>dR f k (bF [k] true l)) _ _ (fun v hv l h=>BF _ _ _ (wT (fun v' b=>?_) h)) h0;rw[aJ.1 b];exact c (Decidable.not_not.1 fun h=>h6 (.inl h)) v hv
end
theorem JD{l:List Sc}{x:ByteArray}:∀{f:Nat} {at' :Int} {a b:Nat},findF l x f at' =some (a,b)→∃c,l[a]? =some c∧gP x c.names 0=some b
 |0,_,_,_,h=>by cases h
 | f+1,at',a,b,h=>by
   by_cases h0:0≤at' ∧at' <l.length
   ·obtain⟨c,hc⟩:∃c,l[at'.toNat]? =some c:=⟨_,aA (by omega)⟩;rw[mY h0 hc]at h;cases e:gP x c.names 0 with
    | some k=>
      rw[e]at h;cases h;exact⟨c,hc,e⟩
    | none=>
      rw[e]at h;dsimp only at h;split at h
      ·cases h
      ·exact JD h
   ·rw[oH h0]at h;cases h
section
variable{E:List Fl}{R:RS}{t:T}{f:Nat}
structure aHn (E:List Fl) (R:RS) (o a d:Nat) (y:ByteArray):Prop where
 lt:d<E.length
 is:IsD E d y
 lex:PK E d=true
 inn:inN R d=(a:Int)
 ode:o<d
 sw:(aH E o).t.op=21→∃v c:Nat,(aH E d).up=(v:Int)∧(aH E v).t.op=2∧(aH E v).up=(c:Int)∧(aH E c).t.op=22∧(aH E c).up=(o:Int)∧o<c∧c<v∧v<d
theorem aJe(P:Gp E R t f){o a v:Nat}{y:ByteArray}{z:T}(hv:v<E.length)(b:(aH E v).t=z)(o2:z.op=2)(hn:z.n≠0){k:T}(hk:k∈z.kids)(i:y∈bB (cQ k 0))(hin:inN R v=(a:Int))(l:o<v)(sw:(aH E o).t.op=21→∃c:Nat,(aH E v).up=(c:Int)∧(aH E c).t.op=22∧(aH E c).up=(o:Int)∧o<c∧c<v):∃d,aHn E R o a d y:=by
 obtain⟨j,p⟩:=List.mem_iff_getElem?.1 hk;obtain⟨d,h1,h2,h3,h4,h5⟩:=P.kidp v j k hv (by rw[b];exact p);have e:k.op=3:=by have:=(P.gw.vk v hv).vj.vs (by rw[b];exact o2);rw[b]at this;exact this k hk
 have g:∀m,¬kI E R v m:=fun m=>sS P.gw.fw hv (IS (by rw[b];omega));refine⟨d,h2,⟨by rw[h5];exact e,by rw[h5];exact i⟩,?_,by rw[vW P.gw.fw h2 h3 hv g];exact hin,by omega,fun h=>?_⟩
 ·unfold PK;rw[h3,aG,b,decide_eq_false hn];rfl
 ·obtain⟨c,g1,g2,g3,g4,g5⟩:=sw h;exact⟨v,c,h3,by rw[b];exact o2,g1,g2,g3,g4,g5,h1⟩
theorem aRr(P:Gp E R t f){o a:Nat}(ho:o<E.length)(hO:kI E R o a){β:Bd}(e:β∈(nmE E o).1)(hk:β.kind=1∨β.kind=2):∃d,aHn E R o a d β.name:=by
 have G:=P.gw;have hw:=G.fw
 -- a statement of the list that the scope's names come from
 have stm:∀(p:Nat),p<E.length→o≤p→(∀x,x<E.length→(aH E x).up=(p:Int)→((aH E p).t.op=21→(aH E x).kid≠0)→inN R x=(a:Int))→(aH E p).t.op≠21→((aH E o).t.op=21→(aH E p).t.op=22∧(aH E p).up=(o:Int)∧o<p)→∀v∈(aH E p).t.kids,v.op=2→v.n≠0→∀k∈v.kids,∀x∈bB (cQ k 0),∃d,aHn E R o a d x:=by intro p hp al hin w ah v hv o2 hn k hk x i;obtain⟨j,hj⟩:=List.mem_iff_getElem?.1 hv;obtain⟨y,h1,h2,h3,h4,h5⟩:=P.kidp p j v hp hj;exact aJe P h2 h5 o2 hn hk i (hin y h2 h3 fun h=>absurd h w) (by omega) fun h=>by obtain⟨g1,g2,g3⟩:=ah h;exact⟨p,h3,g1,g2,g3,h1⟩
 have own:∀x,x<E.length→(aH E x).up=(o:Int)→((aH E o).t.op=21→(aH E x).kid≠0)→inN R x=(a:Int):=fun x i hu w=>KI hw i hu w hO;have main:Src (fun y=>∃d,aHn E R o a d y) (nmE E o).1:=by
  unfold nmE;dsimp only;have some1:∀(l:List Bd) (kd:Int),(kT l kd).1=l:=fun l kd=>by unfold kT;split<;>rfl
  by_cases o1:(aH E o).t.op=1
  ·rw[if_pos o1];exact wT (stm o ho (aC _) own (by omega) (fun h=>by omega)) fun β e=>by cases e
  rw[if_neg o1];by_cases o4:(aH E o).t.op=4
  ·rw[if_pos o4];have u:=(G.vk o ho).fn o4;obtain⟨n',t',up',kid',fn',c',g1,g2,g3⟩:=SZ (E:=E) (f+1) t _ _ _ _ _ P.sz P.vk P.at0 o (aN _) (by have:=P.len;omega);obtain⟨e1,-⟩:=g3.rA g1;have ak:=aS t';obtain⟨n',rfl⟩:∃y,n' =y+1:=⟨n' -1,by omega⟩;have et:(aH E o).t=t' :=by rw[e1]
   rw[et]at u o4;dsimp only;rw[KW g3 g1 o4 u t'.size (aC _)];refine aAp fun h6=>?_;obtain⟨⟨pr,bd,ab⟩,-,-⟩:=u;have aj:cQ t' 1=bd:=by unfold cQ;rw[ab];rfl
   rw[aj]at h6⊢;obtain⟨b,q1,q2,q3,q4,q5⟩:=P.kidp o 1 bd ho (by rw[et,ab];rfl);have ae:∀m,¬kI E R b m:=fun m=>sS hw q2 (by
    unfold nmE;dsimp only;rw[q5,if_neg (by omega),if_neg (by omega),if_pos h6,if_neg (by rw[q3,aG,et];omega)];decide)
   rw[←q5];exact stm b q2 (by omega) (fun x i hu _=>by
    rw[vW hw i hu q2 ae];exact own b q2 q3 (fun h=>by rw[et]at h;omega)) (by rw[q5];omega) (fun h=>by rw[et]at h;omega)
  rw[if_neg o4];by_cases o6:(aH E o).t.op=6
  ·rw[if_pos o6,some1];split
   ·exact wT (stm o ho (aC _) own (by omega) (fun h=>by omega)) fun β e=>by cases e
   ·intro β e;cases e
  rw[if_neg o6];by_cases o21:(aH E o).t.op=21
  ·rw[if_pos o21,some1];refine uM (g:=fun l (k:T)=>bF k.kids true l) ((aH E o).t.kids.drop 1) [] (fun q hq l h=>wT ?_ h) fun β e=>by cases e
   obtain⟨j,hj⟩:=List.mem_iff_getElem?.1 hq;rw[fP]at hj;obtain⟨c,q1,q2,q3,q4,q5⟩:=P.kidp o (1+j) q ho hj;have af:(aH E c).t.op=22:=by obtain⟨s0,r,ai,-,hr⟩:=(G.vk o ho).vj.sw o21;rw[q5];rw[ai,jR,bW]at hj;exact hr q (aB hj)
   have ad:∀m,¬kI E R c m:=fun m=>sS hw q2 (IS (by omega));rw[←q5];exact stm c q2 (by omega) (fun x i hu _=>by
    rw[vW hw i hu q2 ad];exact own c q2 q3 (fun _=>by omega)) (by omega) (fun _=>⟨af,q3,q1⟩)
  rw[if_neg o21];by_cases ol:(aH E o).t.op=10∨(aH E o).t.op=11∨(aH E o).t.op=12
  ·rw[if_pos ol,some1];refine wT (fun v hv o2 hn k hk x i=>?_) fun β e=>by cases e
   obtain⟨z,r,aa⟩:∃z r,(aH E o).t.kids=z::r:=by
    rcases ol with h|h
    ·obtain⟨a,b,c,d,h1,-⟩:=(G.vk o ho).vj.for4 h;exact⟨_,_,h1⟩
    ·obtain⟨a,b,c,h1,-⟩:=(G.vk o ho).vj.for3 h;exact⟨_,_,h1⟩
   obtain⟨y,h1,h2,h3,h4,h5⟩:=P.kidp o 0 z ho (by rw[aa];rfl);have ag:v=z:=by rw[aJ.1 hv];unfold cQ;rw[aa];rfl
   exact aJe P h2 (h5.trans ag.symm) o2 hn hk i (own y h2 h3 fun h=>absurd h o21) h1 fun h=>absurd h o21
  rw[if_neg ol];by_cases o20:(aH E o).t.op=20
  ·rw[if_pos o20,some1];exact LO (fun h=>by omega) fun β e=>by cases e
  rw[if_neg o20];intro β e;cases e
 exact main β e hk
theorem aBp(P:Gp E R t f){x a b:Nat}{y:ByteArray}(j:x<E.length)(hf:iD R.L (inN R x) y=some (a,b))(hk:fD R.L a b=1∨fD R.L a b=2):∃o d,o<x∧Anc E o x∧kI E R o a∧aHn E R o a d y∧iD R.L (inN R d) y=some (a,b):=by
 have hw:=P.gw.fw;obtain⟨o,m,h1,h2,h3,h4⟩:=hw.anc x j (tK hf);obtain⟨c,hc,i⟩:=JD hf;obtain⟨β,e,hn,-⟩:=DO i;have h:fD R.L a b=β.kind:=by
  unfold fD;rw[hc];show((c.names[b]?).map (·.kind)).getD 0=_
  rw[dK]at e;rw[e];rfl
 rw[h]at hk;rcases h4 with rfl|⟨hs,h4⟩
 ·have h5:=h3.2.2;rw[hc]at h5;injection h5 with h5
  have g:β∈(nmE E o).1:=by rw[h5]at e;exact aB e
  obtain⟨d,hd⟩:=aRr P (by omega) h3 g hk;rw[hn]at hd;refine⟨o,d,h1,h2,h3,hd,?_⟩;unfold iD;have l:=(List.getElem?_eq_some_iff.1 hc).1;rw[hd.inn,mY ⟨by omega,by omega⟩ (by rw[aG];exact hc),i];rfl
 ·exfalso;obtain⟨h5,h6⟩:=h3.2.1 hs;obtain rfl:a=m-1:=by omega
  rw[hc]at h6;injection h6 with h6
  rw[h6]at e;have:β∈[(⟨(aH E o).t.s,7,false,0⟩:Bd)]:=aB e;rw[aJ.1 this]at hk;dsimp only at hk;omega
theorem aG0{l:List Sc}{x y:ByteArray}{p q:Int}{a b:Nat}(h1:iD l p x=some (a,b))(h2:iD l q y=some (a,b)):x=y:=by
 obtain⟨c,d,g1,g2,g3,-⟩:=mD h1;obtain⟨c',d',g4,g5,g6,-⟩:=mD h2;rw[g1]at g4;injection g4 with g4
 subst g4;rw[g2]at g5;injection g5 with g5
 rw[←g3,←g6,g5]
theorem aPn(P:Gp E R t f){wd:ByteArray→Int}(he:(yK wd f t).e=0):Uq E R:=by
 intro d d' y y' a b hd p hi j hf c hk;have hw:=P.gw.fw;have i:=aG0 hf c;subst i;obtain⟨o,d0,-,-,q,hL,l⟩:=aBp P hd hf hk;have pos:∀z,(aH E z).t.op=3→0<z:=fun z g=>by
  rcases Nat.eq_zero_or_pos z with rfl|h
  ·rw[hw.root.1]at g;omega
  ·exact h
 have one:∀z,z<E.length→IsD E z y→iD R.L (inN R z) y=some (a,b)→z=d0:=fun z g hi hf=>
  aLb hw P.op P.sz P.at0 P.len P.vk he ⟨pos z hi.1,by rw[←P.len];exact g⟩ ⟨pos d0 hL.is.1,by rw[←P.len];exact hL.lt⟩ hi hL.is (o:=o) (m:=a) (b:=b) ⟨g,hf,q,hk⟩ ⟨hL.lt,l,q,hk⟩ (.inr hL.lex)
 rw[one d hd hi hf,one d' p j c]
end
end
section
open Go.RowKit Go.Vcg
def hZ(E:List Fl)(op:Int):Nat→Int→Int
 |0,i=>i
 |f+1,i=>if i<0 then i else if(aH E i.toNat).t.op=op then i else hZ E op f (aH E i.toNat).up
def kD(E:List Fl)(i op:Int):Int:=hZ E op (i.toNat+2) i
def NE(E:List Fl)(R:RS)(a:Nat)(y:ByteArray)(i:Nat):Bool:=decide ((aH E i).t.op=3)&&(!decide ((aH E (aH E i).up.toNat).t.n=0)&&(decide (inN R i=(a:Int))&&(bB (cQ (aH E i).t 0)).any fun z=>decide (z=y)))
def AT(E:List Fl)(R:RS)(a:Nat)(y:ByteArray):Nat→Nat→Int
 |0,_=> -1
 |f+1,i=>if NE E R a y i=true then(i:Int)else AT E R a y f (i+1)
def xK(E:List Fl)(R:RS)(a:Nat)(y:ByteArray):Int:=AT E R a y E.length 0
theorem OI{E:List Fl}{R:RS}{a:Nat}{y:ByteArray}:∀(f i j:Nat),i≤j→j<i+f→NE E R a y j=true→∃d,AT E R a y f i=((d:Nat):Int)∧NE E R a y d=true∧d<i+f
 |0,i,j,h1,h2,_=>by omega
 | f+1,i,j,h1,h2,h3=>by
   rw[AT];by_cases h:NE E R a y i=true
   ·rw[if_pos h];exact⟨i,rfl,h,by omega⟩
   ·rw[if_neg h];have hne:i≠j:=fun e=>h (by rw[e];exact h3);obtain⟨d,g1,g2,g3⟩:=OI f (i+1) j (by omega) (by omega) h3;exact⟨d,g1,g2,by omega⟩
def wM(E:List Fl)(R:RS)(x a:Nat)(y:ByteArray)(kind:Int):Bool:=
 if kind≠1∧kind≠2 then false
 else if wH E x (xK E R a y).toNat=true then false
 else if((aH E x).fn:Int)≠oB R.L a∨x≤(aH E (xK E R a y).toNat).last then true
 else if oS E R x a=true then true
 else if kD E (xK E R a y) 22<0∨opN R (aH E (kD E (xK E R a y) 22).toNat).up.toNat≠(a:Int)then false
 else decide ((aH E (kD E (xK E R a y) 22).toNat).last<x)
theorem WG{E:List Fl}{n:Nat}(ih:∀(t:T) (up:Int) (kid fn i c:Nat),t.size≤n→AtG E n t up kid fn i c→∀(x y p:Nat),i<x→x<y→y<i+t.size→(aH E x).up=(p:Int)→(aH E y).up=(p:Int)→(aH E x).kid< (aH E y).kid)(pa fn:Nat):∀(ks:List T) (j x0 c:Nat),(∀k∈ks,k.size≤n)→qF E n ks (pa:Int) j fn x0 c→pa<x0→(∀y,x0≤y→y<x0+szs ks→(aH E y).up=(pa:Int)→j≤(aH E y).kid)∧∀(x y p:Nat),x0≤x→x<y→y<x0+szs ks→(aH E x).up=(p:Int)→(aH E y).up=(p:Int)→(aH E x).kid< (aH E y).kid
 | [],_,_,_,_,_,_=>⟨fun y h1 h2=>by
   rw[show szs []=0 from rfl]at h2;omega,fun x y p h1 h2 h3=>by
   rw[show szs []=0 from rfl]at h3;omega⟩
 | k ::r,j,x0,c,hk,hA,u=>by
   have a:=hk k (aE ..);obtain⟨e1,-⟩:=hA.hd.rA a;obtain⟨g1,g2⟩:=WG ih pa fn r (j+1) _ _ (fun k h=>hk k (bP h)) (hA.tl a) (by omega);have hin:∀x,x0<x→x<x0+k.size→∃q:Nat,(aH E x).up=(q:Int)∧x0≤q∧q<x:=fun x h1 h2=>by obtain⟨q,q1,q2,q3,-⟩:=FH n k _ _ _ _ _ a hA.hd x h1 h2;exact⟨q,q1,q2,q3⟩
   rw[bK];have g:∀x,x0+k.size≤x→x<x0+k.size+szs r→∃q:Nat,(aH E x).up=(q:Int)∧(q=pa∨x0+k.size≤q):=fun x h1 h2=>by
    obtain⟨e,he,hu,-⟩:=(hA.tl a).ent (fun k h=>hk k (bP h)) ⟨h1,h2⟩;rw[KS he];rcases hu with hu|hu
    ·exact⟨pa,hu,.inl rfl⟩
    ·exact⟨e.up.toNat,by omega,.inr (by omega)⟩
   refine⟨fun y h1 h2 h3=>?_,fun x y p h1 h2 h3 b l=>?_⟩
   ·by_cases l:y<x0+k.size
    ·by_cases e:y=x0
     ·subst e;rw[e1];exact aC _
     ·obtain⟨q,q1,q2,-⟩:=hin y (by omega) l;omega
    ·have:=g1 y (by omega) (by omega) h3;omega
   ·by_cases f:y<x0+k.size
    ·by_cases e:x=x0
     ·subst e;obtain⟨q,q1,q2,-⟩:=hin y (by omega) f;rw[e1]at b;dsimp only at b;omega
     ·exact ih k _ _ _ _ _ a hA.hd x y p (by omega) h2 f b l
    ·by_cases o:x<x0+k.size
     ·obtain⟨q,q1,q2⟩:=g y (by omega) (by omega);by_cases e:x=x0
      ·subst e;rw[e1]at b⊢;dsimp only at b⊢;have:=g1 y (by omega) (by omega) (by omega);omega
      ·obtain⟨q',q3,q4,q5⟩:=hin x (by omega) o;omega
     ·exact g2 x y p (by omega) h2 (by omega) b l
theorem TH{E:List Fl}:∀(n:Nat) (t:T) (up:Int) (kid fn i c:Nat),t.size≤n→AtG E n t up kid fn i c→∀(x y p:Nat),i<x→x<y→y<i+t.size→(aH E x).up=(p:Int)→(aH E y).up=(p:Int)→(aH E x).kid< (aH E y).kid
 |0,t,_,_,_,_,_,h,_,_,_,_,_,_,_,_,_=>by have:=aS t;omega
 | n+1,t,up,kid,fn,i,c,hs,hA,x,y,p,h1,h2,h3,b,a=>by have e:=aS t;exact(WG (TH n) i _ t.kids 0 (i+1) _ (fun k hk=>eN hs hk) hA.kids (by omega)).2 x y p (by omega) h2 (by omega) b a
section
variable{E:List Fl}{R:RS}{t:T}{f:Nat}
theorem Gp.aNs(P:Gp E R t f){x y p:Nat}(g:x<E.length)(e:y<E.length)(b:(aH E x).up=(p:Int))(a:(aH E y).up=(p:Int))(hk:(aH E x).kid=(aH E y).kid):x=y:=by
 have hl:=P.len;have pos:∀z,(aH E z).up=(p:Int)→0<z:=fun z c=>by
  rcases Nat.eq_zero_or_pos z with rfl|h
  ·rw[P.gw.fw.root.2]at c;omega
  ·exact h
 rcases Nat.lt_trichotomy x y with h|h|h
 ·have:=TH _ t _ _ _ _ _ P.sz P.at0 x y p (pos x b) h (by omega) b a;omega
 ·exact h
 ·have:=TH _ t _ _ _ _ _ P.sz P.at0 y x p (pos y a) h (by omega) a b;omega
theorem Gp.aBh(P:Gp E R t f){o a z:Nat}(c:kI E R o a)(b:z<E.length)(h:opN R z=(a:Int)):z=o:=by
 rcases P.gw.fw.opens b with h1|⟨m,h1,h2,-⟩
 ·omega
 ·obtain rfl:m=a:=by omega
  exact P.gw.fw.inj h2 c
theorem Gp.aTw(P:Gp E R t f){x p:Nat}(u:x<E.length)(hu:(aH E x).up=(p:Int))(i:(aH E x).t.op=22):(aH E p).t.op=21:=by
 have hlt:=P.gw.ups x u;have hm:=aB (P.gw.kidv x p u hu);have l:=P.gw.vk p (by omega);generalize (aH E p).t=q at hm l⊢;generalize (aH E x).t=k at hm i;refine Decidable.byContradiction fun o=>?_;have qd:¬Qd k.op:=fun h=>h.2.2.2 i;have qk:¬Qk k.op:=fun h=>h.2.2 i;have pt:¬PtB k:=fun h=>by unfold PtB at h;omega
 have J:=l.vj;have v:=l.pos;by_cases c1:q.op=1∨q.op=6∨q.op=22∨q.op=23
 ·exact qk (J.st c1 k hm)
 by_cases c2:q.op=2
 ·have:=J.vs c2 k hm;omega
 by_cases c4:q.op=4
 ·obtain⟨⟨a,b,e⟩,g,hb⟩:=l.fn c4;have j:=l.fb c4;have s0:cQ q 0=a:=by unfold cQ;rw[e];rfl
  have s1:cQ q 1=b:=by unfold cQ;rw[e];rfl
  rw[s0]at g;rw[s1]at hb j;rw[e]at hm;simp at hm;rcases hm with rfl|rfl
  ·omega
  ·by_cases h6:k.op=6
   ·omega
   ·exact qd (j h6)
 by_cases c9:q.op=9
 ·obtain⟨a,r,e,g,hr⟩:=J.ifs c9;rw[e]at hm;rcases aR.1 hm with rfl|hm
  ·exact qd g
  ·exact qk (hr k hm)
 by_cases c10:q.op=10
 ·obtain⟨a,b,c,d,e,g,hb,hc,hd⟩:=J.for4 c10;rw[e]at hm;simp at hm;rcases hm with rfl|rfl|rfl|rfl
  ·exact qk g
  ·exact qd hb
  ·exact qd hc
  ·exact qk hd
 by_cases c11:q.op=11∨q.op=12
 ·obtain⟨a,b,c,e,g,hb,hc⟩:=J.for3 c11;rw[e]at hm;simp at hm;rcases hm with rfl|rfl|rfl
  ·exact qk g
  ·exact qd hb
  ·exact qk hc
 by_cases c13:q.op=13
 ·obtain⟨a,b,e,g,hb⟩:=J.wh c13;rw[e]at hm;simp at hm;rcases hm with rfl|rfl
  ·exact qd g
  ·exact qk hb
 by_cases c14:q.op=14
 ·obtain⟨a,b,e,g,hb⟩:=J.do_ c14;rw[e]at hm;simp at hm;rcases hm with rfl|rfl
  ·exact qk g
  ·exact qd hb
 by_cases c20:q.op=20
 ·obtain⟨a,b,e,g,hb⟩:=J.ct c20;rw[e]at hm;simp at hm;rcases hm with rfl|rfl
  ·exact pt g
  ·omega
 exact qd (J.ot v (by omega) c2 c4 (by omega) (by omega) c20 o (by omega) (by omega) k hm)
theorem ZY(P:Gp E R t f){o a c' :Nat}(g:kI E R o a)(i:(aH E o).t.op=21)(hc:c' <E.length)(hu:(aH E c').up=(o:Int)):∀(y:Nat),y<E.length→(y=c' ∨Anc E c' y)→qC E R y a=((aH E c').kid:Int)-1:=by
 intro y;induction y using Nat.strongRecOn with
 | ind y ih=>
   intro c b;rcases b with rfl|b
   ·rw[wB P.gw c hu,if_pos ⟨g.op,i⟩]
   ·have hlt:=b.lt P.gw.fw c;have l:=P.gw.ups c' hc;cases b with
    | par j=>
      have:=P.gw.ups y c;rw[wB P.gw c j,if_neg (fun h=>by have:=P.aBh g hc h.1;omega)];exact ih c' hlt.1 hc (.inl rfl)
    | @up _ q hq e=>
      have h1:=P.gw.ups y c;have h2:=e.lt P.gw.fw (by omega);rw[wB P.gw c hq,if_neg (fun h=>by have:=P.aBh g (by omega) h.1;omega)];exact ih q (by omega) (by omega) (.inr e)
theorem SJ(G:Gw E R){a:Int}(h:∀z,z<E.length→opN R z=a→(aH E z).t.op≠21):∀(y:Nat),y<E.length→qC E R y a=0:=by
 intro y;induction y using Nat.strongRecOn with
 | ind y ih=>
   intro b;by_cases h0:(aH E y).up<0
   ·unfold qC;rw[GP,if_pos h0]
   ·obtain⟨p,c⟩:∃p:Nat,(aH E y).up=(p:Int):=⟨(aH E y).up.toNat,by omega⟩;have hlt:=G.ups y b;rw[wB G b c,if_neg (fun e=>h p (by omega) e.1 e.2)];exact ih p (by omega) (by omega)
theorem aPb(hw:Fw E R){o:Nat}:∀(x:Nat),x<E.length→Anc E o x→∃c',c' <E.length∧(aH E c').up=(o:Int)∧(x=c' ∨Anc E c' x):=by
 intro x;induction x using Nat.strongRecOn with
 | ind x ih=>
   intro b h;cases h with
   |par c=>exact⟨x,b,c,.inl rfl⟩
   | @up _ q hq a=>
     have h0:0<x:=by
      rcases Nat.eq_zero_or_pos x with rfl|h
      ·rw[hw.root.2]at hq;omega
      ·exact h
     obtain⟨p,c,hlt,-⟩:=hw.par h0 b;obtain rfl:p=q:=by omega
     obtain⟨c',g1,g2,g3⟩:=ih p hlt (by omega) a;refine⟨c',g1,g2,.inr ?_⟩;rcases g3 with rfl|g3
     ·exact .par hq
     ·exact .up hq g3
theorem aRl(P:Gp E R t f){d:Nat}:∀(x:Nat),x<E.length→wH E x d=true→d<x∧(aH E d).t.op=3∧inN R x=inN R d∧∀y∈bB (aH E x).t,y∈bB (cQ (aH E d).t 0):=by
 intro x;induction x using Nat.strongRecOn with
 | ind x ih=>
   intro h ho;have hlt:=P.gw.ups x h;by_cases h0:(aH E x).up<0
   ·unfold wH at ho;rw[TS,if_pos h0]at ho;cases ho
   obtain⟨p,j⟩:∃p:Nat,(aH E x).up=(p:Int):=⟨(aH E x).up.toNat,by omega⟩;have c:=P.gw.kidv x p h j;rw[DP P.gw h j]at ho;by_cases h3:(aH E p).t.op=3
   ·rw[if_pos h3]at ho;obtain⟨rfl,hk⟩:=of_decide_eq_true ho;refine⟨by omega,h3,vW P.gw.fw h j (by omega) (fun m=>sS P.gw.fw (by omega) (IS (by omega))),fun y i=>?_⟩;rw[hk]at c;unfold cQ;rw[c];exact i
   ·rw [if_neg h3]at ho;cases e:yX (aH E p).t.op (aH E x).kid with
    | false=>
      rw[e,if_pos rfl]at ho;cases ho
    | true=>
      rw[e,if_neg (by decide)]at ho;obtain⟨g1,g2,g3,g4⟩:=ih p (by omega) (by omega) ho;have e:(aH E p).t.op=60∨(aH E p).t.op=61∨(aH E p).t.op=64∨((aH E p).t.op=62∧(aH E x).kid=1)∨((aH E p).t.op=63∧(aH E x).kid=0):=of_decide_eq_true e;refine⟨by omega,g2,by rw[vW P.gw.fw h j (by omega) (fun m=>sS P.gw.fw (by omega) (IS (by omega)))];exact g3,fun y i=>g4 y ?_⟩;have hJ:=(P.gw.vk p (by omega)).vj;generalize (aH E p).t=q at c e hJ⊢;generalize (aH E x).t=k at c i;generalize (aH E x).kid=jj at c e;have hm:=aB c;rw[qT (by omega)];refine List.mem_flatMap.2 ⟨k,?_,i⟩;unfold gA;by_cases c60:q.op=60∨q.op=61
      ·rw[if_pos (by omega)];exact hm
      rw[if_neg (by omega)];by_cases c64:q.op=64
      ·obtain⟨a,l⟩:=hJ.rs c64;rw[if_pos (.inr c64),l];rw[l]at hm;exact hm
      by_cases c63:q.op=63
      ·obtain⟨a,b,g,-⟩:=hJ.df c63;rw[if_pos (.inl c63),g];rw[g,show jj=0 by omega]at c;injection c with c
       rw[←c];exact aE ..
      ·obtain⟨a,b,g,-⟩:=hJ.pp (by omega);rw[if_neg (by omega),if_pos (by omega),g];rw[g,show jj=1 by omega]at c;injection c with c
       rw[←c];exact aE ..
theorem aEq(i:Uq E R){a b d0:Nat}{o:Nat}{y:ByteArray}(hL:aHn E R o a d0 y)(c:iD R.L (inN R d0) y=some (a,b))(hk:fD R.L a b=1∨fD R.L a b=2):xK E R a y=(d0:Int):=by
 have g:NE E R a y d0=true:=by unfold NE;have hl:=hL.lex;unfold PK at hl;rw[decide_eq_true hL.is.1,decide_eq_true hL.inn,hl,List.any_eq_true.2 ⟨y,hL.is.2,decide_eq_true rfl⟩];rfl
 have h:=hL.lt;obtain⟨d1,hg,h1,h2⟩:=OI (E:=E) (R:=R) (a:=a) (y:=y) E.length 0 d0 (aN _) (by omega) g;unfold xK;rw[hg];unfold NE at h1;rw[aM,aM,aM,decide_eq_true_eq,decide_eq_true_eq]at h1;obtain⟨z,f,e⟩:=List.any_eq_true.1 h1.2.2.2;have hi:IsD E d1 y:=⟨h1.1,by rw[←of_decide_eq_true e];exact f⟩;have:=i d1 d0 y y a b (by omega) hL.lt hi hL.is (by rw[h1.2.2.1,←hL.inn];exact c) c hk;rw[this]
theorem aK9(P:Gp E R t f)(hU:Uq E R){x a b:Nat}(r:x<E.length)(hu:mR E x=true)(hf:iD R.L (inN R x) (aH E x).t.s=some (a,b)):wM E R x a (aH E x).t.s (fD R.L a b)=true↔CkP E R x:=by
 have G:=P.gw;have hw:=G.fw;have cke:CkP E R x↔(fD R.L a b=1∨fD R.L a b=2)∧¬GW E x∧¬VK E R x a b:=by
  refine⟨fun h=>?_,fun h=>⟨a,b,hf,h⟩⟩;obtain⟨a',b',h1,h2⟩:=h;rw[hf]at h1;injection h1 with h1
  injection h1 with e1 e2
  subst e1 e2;exact h2
 rw[cke];unfold wM;by_cases af:fD R.L a b≠1∧fD R.L a b≠2
 ·rw[if_pos af];exact⟨(fun h=>by cases h),fun h=>by omega⟩
 rw[if_neg af];have hk:fD R.L a b=1∨fD R.L a b=2:=by omega
 obtain⟨o,d0,ap,ag,hO,hL,j⟩:=aBp P r hf hk;rw[aEq hU hL j hk,aG];generalize hy:(aH E x).t.s=y at hf hL j;have u:wH E x d0=true↔GW E x:=by
  refine⟨fun h=>⟨d0,h⟩,fun⟨d',h⟩=>?_⟩;obtain⟨g1,g2,g3,g4⟩:=aRl P x r h;have ak:(aH E x).t.op=34:=by
   unfold mR at hu;rw[Bool.or_eq_true]at hu;rcases hu with hu|hu
   ·exact of_decide_eq_true hu
   ·exfalso;rw[aM,aM,aM]at hu;have h0:=of_decide_eq_true hu.1.1.1;have aq:=of_decide_eq_true hu.1.1.2;rw[DP G r (p:=(aH E x).up.toNat) (by omega),if_neg (by omega),if_pos (by unfold yX;exact decide_eq_false (by omega))]at h;cases h
  have:=hU d' d0 y y a b (by omega) hL.lt ⟨g2,g4 y (by rw[qR ak,hy];exact aJ.2 rfl)⟩ hL.is (by rw[←g3];exact hf) j hk;rw[←this];exact h
 by_cases ho:wH E x d0=true
 ·rw[if_pos ho];exact⟨fun h=>(by cases h),fun h=>absurd (u.1 ho) h.2.1⟩
 rw[if_neg ho];have w:¬GW E x:=fun h=>ho (u.2 h);have ah:VK E R x a b↔((aH E d0).last<x∧qC E R d0 a=qC E R x a)∧((aH E x).fn:Int)=oB R.L a∧oS E R x a=false:=by refine⟨fun h=>?_,fun h=>⟨⟨d0,y,hL.lt,h.1.1,hL.is,j,h.1.2⟩,h.2⟩⟩;obtain⟨⟨d,y',g1,g2,g3,g4,g5⟩,h2⟩:=h;have:=hU d d0 y' y a b g1 hL.lt g3 hL.is g4 j hk;rw[this]at g2 g5;exact⟨⟨g2,g5⟩,h2⟩
 rw[ah];by_cases h1:((aH E x).fn:Int)≠oB R.L a∨x≤(aH E d0).last
 ·rw[if_pos h1];refine⟨fun _=>⟨hk,w,fun h=>?_⟩,fun _=>rfl⟩;rcases h1 with h1|h1
  ·exact h1 h.2.1
  ·omega
 rw[if_neg h1];have ai:((aH E x).fn:Int)=oB R.L a:=Decidable.byContradiction fun h=>h1 (.inl h);have aa:(aH E d0).last<x:=by have:¬x≤(aH E d0).last:=fun h=>h1 (.inr h);omega
 cases hh:oS E R x a with
 | true=>
   rw[if_pos rfl];exact⟨fun _=>⟨hk,w,fun h=>by cases h.2.2⟩,fun _=>rfl⟩
 | false =>
   rw[if_neg (by decide)]
   have key:(qC E R d0 a=qC E R x a)↔ ¬(¬(kD E (d0:Int) 22<0∨opN R (aH E (kD E (d0:Int) 22).toNat).up.toNat≠(a:Int))∧(aH E (kD E (d0:Int) 22).toNat).last<x):=by
    by_cases q:(aH E o).t.op=21
    ·obtain⟨v,c,e1,e2,e3,e4,e5,e6,e7,e8⟩:=hL.sw q;have ab:=hL.lt;have ae:kD E (d0:Int) 22=(c:Int):=by
      have st:∀(g i:Nat),hZ E 22 (g+1) (i:Int)=if(aH E i).t.op=22 then(i:Int)else hZ E 22 g (aH E i).up:=fun g i=>by rw[hZ,if_neg (by omega),aG]
      have h3:∀m,0<m→hZ E 22 m (c:Int)=(c:Int):=fun m hm=>by obtain⟨g,rfl⟩:∃g,m=g+1:=⟨m-1,by omega⟩;rw[st,if_pos e4]
      unfold kD;rw[aG,show d0+2=(d0+1)+1 from rfl,st,if_neg (by rw[hL.is.1];omega),e1,st,if_neg (by omega),e3];exact h3 d0 (by omega)
     have ad:qC E R d0 a=((aH E c).kid:Int)-1:=ZY P hO q (by omega) e5 d0 ab (.inr (.up e1 (.par e3)));obtain⟨c',g1,g2,g3⟩:=aPb hw x r ag;have aj:=ZY P hO q g1 g2 x r g3;have an:=G.ups c' g1;have al:c' ≤x∧x≤(aH E c').last:=by
      rcases g3 with rfl|g3
      ·exact⟨aC _,(hw.nest x (by omega) r).2⟩
      ·have:=g3.lt hw r;omega
     have ao:=((Anc.up e1 (Anc.par e3):Anc E c d0)).lt hw ab;rw[ae,ad,aj,aG,e5,aG,hO.op];constructor
     ·intro h hn;have:=P.aNs (x:=c) (y:=c') (by omega) g1 e5 g2 (by omega);subst this;omega
     ·intro h;have hle:x≤(aH E c).last:=by
       refine Decidable.byContradiction fun hn=>h ⟨?_,by omega⟩;rintro(h|h)
       ·omega
       ·exact h rfl
      have:c=c' :=by
       rcases Nat.lt_trichotomy c c' with h|h|h
       ·have:=G.inner c c' h (by omega) g1;omega
       ·exact h
       ·have:=G.inner c' c h (by omega) (by omega);omega
      rw[this]
    ·have hz:∀z,z<E.length→opN R z=(a:Int)→(aH E z).t.op≠21:=fun z hz h=>by rw[P.aBh hO hz h];exact q
     rw[SJ G hz d0 hL.lt,SJ G hz x r];refine⟨fun _ hn=>?_,fun _=>rfl⟩;have ae:∀(g:Nat) (i:Int),(i.toNat<g∨i<0)→i<E.length→0≤hZ E 22 g i→(hZ E 22 g i).toNat<E.length∧(aH E (hZ E 22 g i).toNat).t.op=22:=by
      intro g;induction g with
      |zero=>intro i h1 h2 h3;unfold hZ at h3;omega
      | succ g ih=>
        intro i h1 h2 h3;rw[hZ]at h3⊢;by_cases hi:i<0
        ·rw[if_pos hi]at h3;omega
        ·rw[if_neg hi]at h3⊢;by_cases ho:(aH E i.toNat).t.op=22
         ·rw[if_pos ho];exact⟨by omega,ho⟩
         ·rw[if_neg ho]at h3⊢;have:=G.ups i.toNat (by omega);exact ih _ (by omega) (by omega) h3
     have ab:=hL.lt;obtain⟨q1,q2⟩:=ae (d0+2) (d0:Int) (by omega) (by omega) (by
      have:=hn.1;unfold kD at this;rw[aG]at this;omega)
     have l:=hn.1;unfold kD at l;rw[aG]at l;have ad:0< (hZ E 22 (d0+2) (d0:Int)).toNat:=by
      rcases Nat.eq_zero_or_pos (hZ E 22 (d0+2) (d0:Int)).toNat with h|h
      ·rw[h,hw.root.1]at q2;omega
      ·exact h
     obtain⟨p,hp,hlt,-⟩:=hw.par ad q1;have h5:=P.aTw q1 hp q2;rw[hp,aG]at l;exact hz p (by omega) (Decidable.byContradiction fun h=>l (.inr h)) h5
   constructor
   ·intro h;refine⟨hk,w,fun hp=>?_⟩;refine key.1 hp.1.2 ?_;split at h
    ·cases h
    ·rename_i h2;exact⟨h2,of_decide_eq_true h⟩
   ·rintro⟨-,-,h⟩;have h2:¬(qC E R d0 a=qC E R x a):=fun e=>h ⟨⟨aa,e⟩,ai,rfl⟩;have h3:=fun e=>h2 (key.2 e);have h4:=Classical.not_not.1 h3;rw[if_neg h4.1];exact decide_eq_true h4.2
end
end
section
open Go.RowKit Go.Vcg
def uK(E:List Fl)(R:RS)(L:List Sc)(x:Nat):Us:=match iD L (inN R x) (aH E x).t.s with
 |none=>⟨(aH E x).t.at',inN R x,2,0,0,0,(aH E x).t.s,false⟩
 |some (a,b)=>⟨(aH E x).t.at',inN R x,if(sN L a b).held=true then 1 else 0,if(sN L a b).held=true then(mH L ((inN R x).toNat+1) (inN R x) a:Nat)else 0,(sN L a b).slot,(sN L a b).kind,(aH E x).t.s,wM E R x a (aH E x).t.s (sN L a b).kind⟩
section
variable{E:List Fl}{R:RS}{t:T}{f:Nat}
theorem SL{l L:List Sc}(hs:mJ l L){p:Int}{y:ByteArray}{a b:Nat}(hf:iD l p y=some (a,b)):(sN L a b).kind=fD l a b:=by
 obtain⟨c,d,h1,h2,-⟩:=mD hf;obtain⟨c',e⟩:∃c',L[a]? =some c' :=⟨_,aA (by rw[←hs.1];exact(List.getElem?_eq_some_iff.1 h1).1)⟩;have h3:=congrArg (fun l=>l[b]?) (hs.2 a c c' h1 e).2.2;rw[aX,aX,h2]at h3;cases h4:c'.names[b]? with
 |none=>rw[h4]at h3;cases h3
 | some d' =>
   rw[h4]at h3;injection h3 with h3
   have h5:=congrArg Prod.snd h3;unfold sN fD;rw[e,h1];show((c'.names[b]?).getD _).kind=((c.names[b]?).map (·.kind)).getD 0
   rw[h4,h2];exact h5
theorem aQn(P:Gp E R t f)(j:Uq E R){x:Nat}{u:Ux}{L:List Sc}(i:x<E.length)(c:mR E x=true)(hs:mJ R.L L)(h:UxP E R x u):tO L u=uK E R L x:=by
 obtain⟨ck,rfl,hc⟩:=h;have e:=xE hs (inN R x) (aH E x).t.s;unfold uK uxE;rw[e];cases hf:iD R.L (inN R x) (aH E x).t.s with
 |none=>rfl
 | some ab=>
   obtain⟨a,b⟩:=ab;dsimp only;have hk:=SL hs hf;have he:=aK9 P j i c hf
   rw[hk];have g:ck=wM E R x a (aH E x).t.s (fD R.L a b):=by
    cases h1:wM E R x a (aH E x).t.s (fD R.L a b)with
    |true=>exact hc.2 (he.1 h1)
    | false=>
      cases ck with
      |false=>rfl
      |true=>rw[he.2 (hc.1 rfl)]at h1;cases h1
   rw[←g];unfold tO;rw[if_pos rfl];dsimp only;cases(sN L a b).held<;>rfl
theorem aHx(P:Gp E R t f)(b:Uq E R){L:List Sc}(hs:mJ R.L L){xs:List Nat}{us:List Ux}(h:VO (UxP E R) xs us)(a:∀x∈xs,x<E.length∧mR E x=true):us.map (tO L)=xs.map (uK E R L):=by
 induction h with
 |nil=>rfl
 | cons h1 _ ih=>
   rw[aL,aL,aQn P b (a _ (aE ..)).1 (a _ (aE ..)).2 hs h1,ih fun x h=>a x (bP h)]
end
theorem aHy{t:T}(b:t.op=1)(a:rtB t 1 false=true)(f:Nat)(hf:t.size≤f){wd:ByteArray→Int}{g:Nat}(hg:t.size≤g+1)(he:(yK wd g t).e=0):(gS f t).uses.map (tO (qZ (gS f t)))=(usN (eO t) t.size).map (uK (eO t) (fS (eO t) t.size) (qZ (gS f t))):=by
 have P:=aJ1 b a g hg;have h:=aPn P he;have h1:=aQ6 b a f hf h;obtain⟨h2,-⟩:=run_eq b a f hf;have hs:mJ (fS (eO t) t.size).L (qZ (gS f t)):=by
  show mJ (foldI (bI (eO t)) 0 t.size kO).L _
  rw[h2];exact zC _
 refine aHx P h hs h1 fun x c=>?_;unfold usN at c;obtain⟨h3,h4⟩:=List.mem_filter.1 c;exact⟨by rw[P.len];exact List.mem_range.1 h3,h4⟩
end
section
open Go.RowKit Go.Vcg Go.MapKept
theorem GR{E:List Fl}(hup:∀k,k<E.length→(aH E k).up<k)(op:Int):∀(f g:Nat) (i:Int),i<E.length→i<f→i<g→hZ E op f i=hZ E op g i
 |0,0,_,_,_,_=>rfl
 |0,g+1,i,_,h,_=>by rw[hZ,hZ,if_pos (by omega)]
 |f+1,0,i,_,_,h=>by rw[hZ,hZ,if_pos (by omega)]
 | f+1,g+1,i,h,h1,h2=>by
   rw[hZ,hZ];by_cases h0:i<0
   ·rw[if_pos h0,if_pos h0]
   ·rw[if_neg h0,if_neg h0];have:=hup i.toNat (by omega);split
    ·rfl
    ·exact GR hup op f g _ (by omega) (by omega) (by omega)
theorem aHi{E:List Fl}(hup:∀k,k<E.length→(aH E k).up<k){op:Int}{k:Nat}(hk:k<E.length):kD E (k:Int) op=if(aH E k).t.op=op then(k:Int)else kD E (aH E k).up op:=by
 have:=hup k hk;unfold kD;rw[hZ,if_neg (by omega),aG];split
 ·rfl
 ·exact GR hup op _ _ _ (by omega) (by omega) (by omega)
theorem aC0{E:List Fl}{op i:Int}(h:i<0):kD E i op=i:=by
 unfold kD;rw[hZ,if_pos h]
theorem GV.ups{E:List Fl}(h:GV E):∀k,k<E.length→ -1≤(aH E k).up∧(aH E k).up<k:=fun k hk=>by
 have h1:=h.up k _ (aA hk);rw[KS (aA hk)];exact h1
attribute [local irreducible] aH kD wH iN
attribute [local irreducible] jY dT eM bF dR dM anI jK iB G GC GQ GA eV Calls IntKind.wrap Int.decLt Int.decLe
theorem TN(E:List Fl)(fv:Value)(es:List (Fl×Value))(i op:Int)(μ:Mem)(o:FLs μ E fv es)(h:GV E)(h0: -1≤i)(hi:i<E.length)(w:World)(hμ:MOk μ w):
 bC 57 #[fv,.int .i64 i,.int .i64 op] w (.int .i64 (kD E i op)):=by
 obtain⟨A0,cA,rfl⟩:=o.form;have q:=h.len;have f:=h.ups;generalize hr:kD E i op=res;refine aF Tryz.func57 rfl Tryz.ntmps57 (by simp) hμ ?_;try repeat' (refine KZ ?_)
 refine cD (ι:=Int) (fun j=> -1≤j∧j<E.length∧kD E j op=res) (fun j=>(j+1).toNat) (fun _=>μ) (fun j=>[(0,.slice A0 E.length cA),(1,.int .i64 j),(2,.int .i64 op)]) (fun _=>[]) i ⟨h0,hi,hr⟩ (fun a w hs=>J5 hs) ?_;clear hr h0 hi i;rintro i ⟨h0,hi,hr⟩;by_cases hn:i<0
 ·rw[aC0 hn]at hr;subst hr;try repeat' (refine KZ ?_)
  all_goals exact aQ rfl rfl rfl
 ·obtain⟨k,rfl⟩:∃k:Nat,i=k:=⟨i.toNat,by omega⟩;obtain⟨ad,e,u,rfl,v,l,g,p,r⟩:=o.get (i:=k) (by omega);have hu:=f k (by omega);rw[aHi (fun k hk=>(f k hk).2) (by omega)]at hr;rw[l]at hr hu;obtain⟨t,up,kid,fn,num,last⟩:=e;dsimp only at hr hu g;by_cases ho:t.op=op
  ·rw[if_pos ho]at hr;subst hr;try repeat' (first|refine KO ?_|(refine KV (b:=by first|exact U1 k|exact U4 g) (c:=?_))|refine KZ ?_)
   all_goals exact aQ rfl rfl rfl
  ·rw[if_neg ho]at hr;try repeat' (first|refine KO ?_|(refine KV (b:=by first|exact U1 k|exact U4 g) (c:=?_))|refine KZ ?_)
   all_goals exact J2 up ⟨hu.1,by omega,hr⟩ (by omega)
theorem aFh(E:List Fl)(fv:Value)(es:List (Fl×Value))(i d:Nat)(μ:Mem)(hF:FLs μ E fv es)(z:GV E)(hup:∀{x p d:Nat},x<E.length→(aH E x).up=(p:Int)→wH E x d=if(aH E p).t.op=3 then decide (p=d∧(aH E x).kid=0)else if yX (aH E p).t.op (aH E x).kid=false then false else wH E p d)(q:∀{x d:Nat},(aH E x).up<0→wH E x d=false)(hi:i<E.length)(w:World)(hμ:MOk μ w):
 bC 55 #[fv,.int .i64 (i:Int),.int .i64 (d:Int)] w (.bool (wH E i d)):=by
 obtain⟨A0,cA,rfl⟩:=hF.form;have ag:=z.len;have v:=z.ups;generalize hr:wH E i d=res;refine aF Tryz.func55 rfl Tryz.ntmps55 (by simp) hμ ?_;try repeat' (refine KZ ?_)
 refine cD (ι:=Nat) (fun j=>j<E.length∧wH E j d=res) (fun j=>j) (fun _=>μ) (fun j=>[(0,.slice A0 E.length cA),(1,.int .i64 (j:Int)),(2,.int .i64 (d:Int)),(6,.bool false)]) (fun _=>[]) i ⟨hi,hr⟩ (fun a w hs=>J5 hs) ?_;clear hr hi i;rintro i ⟨hi,hr⟩;obtain⟨ad,e,u,rfl,ai,r,f,af,ah⟩:=hF.get hi;have hu:=v i hi;by_cases h0:(aH E i).up<0
 ·rw[q h0]at hr;subst hr;rw[r]at h0 hu;obtain⟨t,up,kid,fn,num,last⟩:=e;dsimp only at h0 hu f;try repeat' (first|refine KO ?_|(refine KV (b:=by first|exact U1 i|exact U4 f) (c:=?_))|refine KZ ?_)
  all_goals exact aQ rfl rfl rfl
 ·obtain⟨p,hp⟩:∃p:Nat,(aH E i).up=(p:Int):=⟨(aH E i).up.toNat,by omega⟩;have l:p<E.length:=by omega
  obtain⟨ad9,ep,up',e9,-,ab,g,-,-⟩:=hF.get l;cases e9;rw[hup hi hp,ab,r]at hr;rw[r]at hp hu;obtain⟨t,up,kid,fn,num,last⟩:=e;obtain⟨tp,upp,kidp,fnp,nump,lastp⟩:=ep;dsimp only at hp hu hr f g;subst hp;have o:p<i:=by omega
  by_cases c3:tp.op=3
  ·rw[if_pos c3]at hr;subst hr;by_cases y:p=d
   ·subst y;by_cases hk:kid=0
    ·subst hk;try repeat' (first|refine KO ?_|(refine KV (b:=by first|exact U1 i|exact U1 p|exact U4 f|exact U4 g) (c:=?_))|refine KZ ?_)
     all_goals exact aQ rfl rfl (by simp)
    ·have aa:¬(kid:Int)=0:=by omega
     try repeat' (first|refine KO ?_|(refine KV (b:=by first|exact U1 i|exact U1 p|exact U4 f|exact U4 g) (c:=?_))|refine KZ ?_)
     all_goals exact aQ rfl rfl (by simp[hk])
   ·have ae:¬(p:Int)=(d:Int):=by omega
    try repeat' (first|refine KO ?_|(refine KV (b:=by first|exact U1 i|exact U1 p|exact U4 f|exact U4 g) (c:=?_))|refine KZ ?_)
    all_goals exact aQ rfl rfl (by simp[y])
  ·rw[if_neg c3]at hr;have back:yX tp.op kid=true→wH E p d=res:=fun h=>by rw[h]at hr;exact hr
   have stop:yX tp.op kid=false→false=res:=fun h=>by rw[h,if_pos rfl]at hr;exact hr
   clear hr;by_cases c60:tp.op=60
   ·have hb:=back (decide_eq_true (by omega));try repeat' (first|refine KO ?_|(refine KV (b:=by first|exact U1 i|exact U1 p|exact U4 f|exact U4 g) (c:=?_))|refine KZ ?_)
    all_goals exact J2 p ⟨l,hb⟩ o
   by_cases c61:tp.op=61
   ·have hb:=back (decide_eq_true (by omega));try repeat' (first|refine KO ?_|(refine KV (b:=by first|exact U1 i|exact U1 p|exact U4 f|exact U4 g) (c:=?_))|refine KZ ?_)
    all_goals exact J2 p ⟨l,hb⟩ o
   by_cases c64:tp.op=64
   ·have hb:=back (decide_eq_true (by omega));try repeat' (first|refine KO ?_|(refine KV (b:=by first|exact U1 i|exact U1 p|exact U4 f|exact U4 g) (c:=?_))|refine KZ ?_)
    all_goals exact J2 p ⟨l,hb⟩ o
   by_cases c62:tp.op=62
   ·by_cases hk:kid=1
    ·have hb:=back (decide_eq_true (by omega));subst hk;try repeat' (first|refine KO ?_|(refine KV (b:=by first|exact U1 i|exact U1 p|exact U4 f|exact U4 g) (c:=?_))|refine KZ ?_)
     all_goals exact J2 p ⟨l,hb⟩ o
    ·have hb:=stop (decide_eq_false (by omega));have aa:¬(kid:Int)=1:=by omega
     try repeat' (first|refine KO ?_|(refine KV (b:=by first|exact U1 i|exact U1 p|exact U4 f|exact U4 g) (c:=?_))|refine KZ ?_)
     all_goals exact aQ rfl rfl (congrArg _ hb)
   by_cases c63:tp.op=63
   ·by_cases hk:kid=0
    ·have hb:=back (decide_eq_true (by omega));subst hk;try repeat' (first|refine KO ?_|(refine KV (b:=by first|exact U1 i|exact U1 p|exact U4 f|exact U4 g) (c:=?_))|refine KZ ?_)
     all_goals exact J2 p ⟨l,hb⟩ o
    ·have hb:=stop (decide_eq_false (by omega));have aa:¬(kid:Int)=0:=by omega
     try repeat' (first|refine KO ?_|(refine KV (b:=by first|exact U1 i|exact U1 p|exact U4 f|exact U4 g) (c:=?_))|refine KZ ?_)
     all_goals exact aQ rfl rfl (congrArg _ hb)
   have hb:=stop (decide_eq_false (by omega));try repeat' (first|refine KO ?_|(refine KV (b:=by first|exact U1 i|exact U1 p|exact U4 f|exact U4 g) (c:=?_))|refine KZ ?_)
   all_goals exact aQ rfl rfl (congrArg _ hb)
theorem aA3(w:World)(μ:Mem)(hμ:MOk μ w)(A:Option Addr)(c:Nat)(ps:List (Sc×Value))(q:ScR μ A ps)(a:Int)(bb:Nat)(u:kN (scs ps) bb a)(ae:a<ps.length):
 bC 32 #[.slice A ps.length c,.int .i64 a,.int .i64 (bb:Int)] w (.int .i64 ((mH (scs ps) (a.toNat+1) a bb:Nat):Int)):=by
 obtain⟨hS,hl,o⟩:=q;generalize hT:mH (scs ps) (a.toNat+1) a bb=tot;have x:=NI (scs ps) bb (a.toNat+1) a;rw[hT]at x;refine aF Tryz.func32 rfl Tryz.ntmps32 (by simp) hμ ?_;try repeat' (refine KZ ?_)
 refine cD (ι:=Int×Nat) (fun j=>kN (scs ps) bb j.1∧j.2+mH (scs ps) (j.1.toNat+1) j.1 bb=tot∧j.1≤a) (fun j=>j.1.toNat) (fun _=>μ) (fun j=>[(0,.slice A ps.length c),(1,.int .i64 j.1),(2,.int .i64 (bb:Int)),(7,.int .i64 (j.2:Int))]) (fun _=>[]) (a,0) ⟨u,by dsimp only;omega,by dsimp only;omega⟩ (fun a w hs=>J5 hs) ?_;rintro⟨a',n⟩ ⟨f,e,t⟩;dsimp only at f e t⊢;have aa:=f.uS;by_cases p:a' =(bb:Int)
 ·subst p;have h0:mH (scs ps) ((bb:Int).toNat+1) (bb:Int) (bb:Int)=0:=by rw[mH,if_pos rfl]
  rw[h0,bZ]at e;subst e;try repeat' (refine KZ ?_)
  all_goals exact aQ rfl rfl rfl
 ·cases f with
  |here=>exact absurd rfl p
  | @up _ c9 h0 hc hlt hne h=>
    have hup:=YR h0 hc hlt hne h;rw[hup]at e;have h1:=h.uS;obtain⟨k,rfl⟩:∃k:Nat,a' =k:=⟨a'.toNat,by omega⟩;rw[aG]at hc;have r:k<ps.length:=by have:=(List.getElem?_eq_some_iff.1 hc).1;rw[kV]at this;exact this
    obtain⟨ad,y,rfl,z,g⟩:=hS.get r;obtain⟨cy,v⟩:=y;obtain rfl:cy=c9:=by have h9:=mE z;rw[hc]at h9;cases h9;rfl
    have i:=o _ (aB z);dsimp only at i g;have l:=fun w μc hw (hle:MLe μ μc)=>IL w μc hw cy v (i.mono hle);obtain⟨A2,c2,rfl,af,ab⟩:=i;by_cases hh:0<iN cy.names
    ·rw[if_pos hh]at e;try repeat' (first|refine KO ?_|refine K2 58 l ?_|(refine KV (b:=by first|exact U1 k|exact U4 g) (c:=?_))|refine KZ ?_)
     all_goals exact J2 (cy.up,n+1) ⟨h,by dsimp only;omega,by dsimp only;omega⟩ (by dsimp only;omega)
    ·rw[if_neg hh]at e;try repeat' (first|refine KO ?_|refine K2 58 l ?_|(refine KV (b:=by first|exact U1 k|exact U4 g) (c:=?_))|refine KZ ?_)
     all_goals exact J2 (cy.up,n) ⟨h,by dsimp only;omega,by dsimp only;omega⟩ (by dsimp only;omega)
end
section
open Go.RowKit Go.Vcg Go.MapKept
theorem TE{μ:Mem}{b n:Nat}{xs:List Int}(h:Sl CZ 1 μ (some ⟨b,0,none⟩) n xs){k:Nat}(hk:k<n):∃y,xs[k]? =some y∧gF μ ((⟨b,0,none⟩:Addr).add (k*1)) [.int .i64 y]:=by
 obtain⟨ad,y,e,a,hm⟩:=h.get hk;cases e;exact⟨y,a,hm⟩
attribute [local irreducible] aH wH oS NE
attribute [local irreducible] jY dT eM bF dR dM anI jK iB G GC GQ GA eV Calls IntKind.wrap Int.decLt Int.decLe
theorem aA4(E:List Fl)(R:RS)(fv:Value)(es:List (Fl×Value))(i:Nat)(sc:Int)(A:Option Addr)(n c ob:Nat)(iv:Value)(an:iv.oneCell' =true)(μ:Mem)(hF:FLs μ E fv es)(aa:GV E)(hO:Sl CZ 1 μ (some ⟨ob,0,none⟩) E.length R.ops)(hup:∀{x p:Nat},x<E.length→(aH E x).up=(p:Int)→oS E R x sc=if opN R p=sc∧((aH E p).t.op=11∨(aH E p).t.op=12)∧(aH E x).kid=1 then true else oS E R p sc)(r:∀{x:Nat},(aH E x).up<0→oS E R x sc=false)(hi:i<E.length)(w:World)(hμ:MOk μ w):
 bC 56 #[fv,.agg #[.slice A n c,iv,.slice (some ⟨ob,0,none⟩) E.length E.length],.int .i64 (i:Int),.int .i64 sc] w (.bool (oS E R i sc)):=by
 obtain⟨A0,cA,rfl⟩:=hF.form;have ak:=aa.len;have z:=aa.ups;generalize hr:oS E R i sc=res;refine aF Tryz.func56 rfl Tryz.ntmps56 (by simp) hμ ?_;try repeat' (first|refine KZ ?_|refine NB fun b=>?_)
 obtain⟨bt,ab⟩:∃x,x=b:=⟨_,rfl⟩;rw[←ab];clear ab;refine cD (ι:=Nat) (fun j=>j<E.length∧oS E R j sc=res) (fun j=>j) (fun _=>μ) (fun j=>[(0,.slice A0 E.length cA),(2,.int .i64 (j:Int)),(3,.int .i64 sc),(5,.pointer (some ⟨bt,0,none⟩)),(8,.bool false)]) (fun _=>[.inl ⟨bt,73,3,[(0,.slice A n c),(1,iv),(2,.slice (some ⟨ob,0,none⟩) E.length E.length)]⟩]) i ⟨hi,hr⟩ (fun a w hs=>J5 hs) ?_;clear hr hi i;rintro i ⟨hi,hr⟩;obtain⟨ad,e,u,rfl,ao,v,f,aj,al⟩:=hF.get hi;have hu:=z i hi;by_cases h0:(aH E i).up<0
 ·rw[r h0]at hr;subst hr;rw[v]at h0 hu;obtain⟨t,up,kid,fn,num,last⟩:=e;dsimp only at h0 hu f;try repeat' (first|refine KO ?_|(refine KV (b:=by first|exact U1 i|exact U4 f) (c:=?_))|refine KZ ?_)
  all_goals exact aQ rfl rfl rfl
 ·obtain⟨p,hp⟩:∃p:Nat,(aH E i).up=(p:Int):=⟨(aH E i).up.toNat,by omega⟩;have g:p<E.length:=by omega
  obtain⟨ad9,ep,up',e9,-,ai,l,-,-⟩:=hF.get g;cases e9;obtain⟨y,hy,o⟩:=TE hO g;have ag:opN R p=y:=by unfold opN;rw[hy];rfl
  rw[hup hi hp,ai,v,ag]at hr;rw[v]at hp hu;obtain⟨t,up,kid,fn,num,last⟩:=e;obtain⟨tp,upp,kidp,fnp,nump,lastp⟩:=ep;dsimp only at hp hu hr f l;subst hp;have q:p<i:=by omega
  have back:¬(y=sc∧(tp.op=11∨tp.op=12)∧kid=1)→oS E R p sc=res:=fun h=>by rw[if_neg h]at hr;exact hr
  have stop:(y=sc∧(tp.op=11∨tp.op=12)∧kid=1)→true=res:=fun h=>by rw[if_pos h]at hr;exact hr
  clear hr;by_cases ho:y=sc
  ·by_cases af:tp.op=11
   ·by_cases hk:kid=1
    ·have hb:=stop ⟨ho,.inl af,hk⟩;subst hk;try repeat' (first|refine KO ?_|(refine KV (b:=by first|exact U1 i|exact U1 p|exact U4 f|exact U4 l|exact U3 (o.at 0 rfl)) (c:=?_))|refine KZ ?_)
     all_goals exact aQ rfl rfl (congrArg _ hb)
    ·have hb:=back fun h=>hk h.2.2;have ah:¬(kid:Int)=1:=by omega
     try repeat' (first|refine KO ?_|(refine KV (b:=by first|exact U1 i|exact U1 p|exact U4 f|exact U4 l|exact U3 (o.at 0 rfl)) (c:=?_))|refine KZ ?_)
     all_goals exact J2 p ⟨g,hb⟩ q
   ·by_cases ae:tp.op=12
    ·by_cases hk:kid=1
     ·have hb:=stop ⟨ho,.inr ae,hk⟩;subst hk;try repeat' (first|refine KO ?_|(refine KV (b:=by first|exact U1 i|exact U1 p|exact U4 f|exact U4 l|exact U3 (o.at 0 rfl)) (c:=?_))|refine KZ ?_)
      all_goals exact aQ rfl rfl (congrArg _ hb)
     ·have hb:=back fun h=>hk h.2.2;have ah:¬(kid:Int)=1:=by omega
      try repeat' (first|refine KO ?_|(refine KV (b:=by first|exact U1 i|exact U1 p|exact U4 f|exact U4 l|exact U3 (o.at 0 rfl)) (c:=?_))|refine KZ ?_)
      all_goals exact J2 p ⟨g,hb⟩ q
    ·have hb:=back fun h=>by rcases h.2.1 with h|h;exact af h;exact ae h
     try repeat' (first|refine KO ?_|(refine KV (b:=by first|exact U1 i|exact U1 p|exact U4 f|exact U4 l|exact U3 (o.at 0 rfl)) (c:=?_))|refine KZ ?_)
     all_goals exact J2 p ⟨g,hb⟩ q
  ·have hb:=back fun h=>ho h.1;try repeat' (first|refine KO ?_|(refine KV (b:=by first|exact U1 i|exact U1 p|exact U4 f|exact U3 (o.at 0 rfl)) (c:=?_))|refine KZ ?_)
   all_goals exact J2 p ⟨g,hb⟩ q
theorem aA6(E:List Fl)(R:RS)(fv:Value)(es:List (Fl×Value))(a:Nat)(y:ByteArray)(A:Option Addr)(n c ib:Nat)(ov:Value)(bn:ov.oneCell' =true)(μ:Mem)(hF:FLs μ E fv es)(o:GV E)(hI:Sl CZ 1 μ (some ⟨ib,0,none⟩) E.length R.ins)(ay:∀i,(aH E i).t.op=3→0≤(aH E i).up)(w:World)(hμ:MOk μ w):
 bC 54 #[fv,.agg #[.slice A n c,.slice (some ⟨ib,0,none⟩) E.length E.length,ov],.int .i64 (a:Int),.string y] w (.int .i64 (xK E R a y)):=by
 obtain⟨A0,cA,rfl⟩:=hF.form;have bp:=o.len;have ai:=o.ups;have ae:∀i,i<E.length→AT E R a y (E.length-i) i=if NE E R a y i=true then(i:Int)else AT E R a y (E.length- (i+1)) (i+1):=fun i hi=>by rw[show E.length-i=(E.length- (i+1))+1 by omega,AT]
 have ar:AT E R a y (E.length-E.length) E.length= -1:=by rw[cK,AT]
 generalize hr:xK E R a y=res;have hr:AT E R a y (E.length-0) 0=res:=hr;refine aF Tryz.func54 rfl Tryz.ntmps54 (by simp) hμ ?_;try repeat' (first|refine KZ ?_|refine NB fun b=>?_)
 obtain⟨bt,av⟩:∃x,x=b:=⟨_,rfl⟩;rw[←av];clear av;refine cD (ι:=Nat×Mem) (fun q=>q.1≤E.length∧MLe μ q.2∧AT E R a y (E.length-q.1) q.1=res) (fun q=>E.length-q.1) (fun q=>q.2) (fun q=>[(0,.slice A0 E.length cA),(2,.int .i64 (a:Int)),(3,.string y),(5,.pointer (some ⟨bt,0,none⟩)),(9,.int .i64 (q.1:Int))]) (fun _=>[.inl ⟨bt,73,3,[(0,.slice A n c),(1,.slice (some ⟨ib,0,none⟩) E.length E.length),(2,ov)]⟩]) (0,μ) ⟨aN _,MLe.refl _,hr⟩ (fun a w hs=>J5 hs) ?_;clear hr;rintro⟨i,μ1⟩ ⟨hi,g,hr⟩;dsimp only at hi g hr⊢;by_cases hlt:i<E.length
 ·have aw:=hF.mono g;have bh:=hI.mono g;obtain⟨ad,e,u,rfl,au,aq,l,a8,af⟩:=aw.get hlt;have ab:=o.vw e (aB au);have a1:=o.sz e (aB au);have hu:=ai i hlt;have bi:=ay i;obtain⟨z,hz,an⟩:=TE bh hlt;have hin:inN R i=z:=by unfold inN;rw[hz];rfl
  rw[ae i hlt]at hr;have f:NE E R a y i=(decide ((aH E i).t.op=3)&&(!decide ((aH E (aH E i).up.toNat).t.n=0)&&(decide (inN R i=(a:Int))&&(bB (cQ (aH E i).t 0)).any fun z=>decide (z=y)))):=by unfold NE;rfl
  rw[hin]at f;by_cases c3:(aH E i).t.op=3
  ·obtain⟨p,hp⟩:∃p:Nat,(aH E i).up=(p:Int):=⟨(aH E i).up.toNat,by have:=bi c3;omega⟩;have a6:p<E.length:=by omega
   obtain⟨ad9,ep,up',e9,-,bc,r,-,-⟩:=aw.get a6;cases e9;rw[hp,aG,bc]at f;rw[aq]at f hp hu c3;obtain⟨t,up,kid,fn,num,last⟩:=e;obtain⟨tp,upp,kidp,fnp,nump,lastp⟩:=ep;dsimp only at hp hu f l r a8 af c3 ab a1;subst hp;rw[decide_eq_true c3,bR]at f;by_cases cn:tp.n=0
   ·rw[decide_eq_true cn]at f;rw[if_neg (by rw[f];simp)]at hr;try repeat' (first|refine KO ?_|(refine KV (b:=by first|exact U1 i|exact U1 p|exact U4 l|exact U4 r) (c:=?_))|refine KZ ?_)
    all_goals exact J2 (i+1,μ1) ⟨by dsimp only;omega,g,hr⟩ (by dsimp only;omega)
   ·rw [decide_eq_false cn,Bool.not_false,bR]at f;by_cases ca:z=(a:Int)
    ·rw [decide_eq_true ca,bR]at f;have h1:=ab.here.ks.dec c3;have ou:=af.one;obtain⟨Ak,ck,rfl,bd,ag⟩:=af.form;obtain⟨d0,aa⟩:∃d0,t.kids[0]? =some d0:=⟨_,aA (by omega)⟩;obtain⟨ad0,x0,rfl,ba,bj,ap⟩:=ag 0 d0 aa;rw[jE aa]at f;have bm:=T.fY aa;have bo:=kQ d0;have ax:dJ Vp d0:=(ab.kid (aB aa)).imp' fun t h=>h.vp;have a7:=fun w μc hw (hle:MLe μ1 μc)=>tD d0 w μc x0 hw (ap.mono hle) (by omega) ax;try repeat' (first|refine KO ?_|((with_reducible apply F3 74);exact rfl;exact EN;(exact fun w μc hw az=>a7 w μc hw az.le);intro v2;(with_reducible apply fI 0);exact rfl;(rintro A2 c2 rfl bk);(refine pG rfl ?_);(intro μ2 ao aj);(have bg:=SsV.nH (xs:=bB d0) aj rfl rfl))|(refine KV (b:=by first|exact U1 i|exact U1 p|exact U1 0|exact U4 l|exact U4 r|exact U3 (an.at 0 rfl)|exact U4 ba) (c:=?_))|refine KZ ?_)
     obtain⟨A9,c9,e9,bf,bq⟩:=bg;cases e9;refine cD (ι:=Nat) (fun k=>k≤(bB d0).length∧∀(j:Nat) (v:ByteArray),j<k→(bB d0)[j]? =some v→v≠y) (fun k=>(bB d0).length-k) (fun _=>μ2) (fun k=>[(0,.slice (some ad) E.length cA),(2,.int .i64 (a:Int)),(3,.string y),(5,.pointer (some ⟨bt,0,none⟩)),(9,.int .i64 (i:Int)),(10,.slice A2 (bB d0).length c2),(11,.int .i64 (k:Int))]) (fun _=>[.inl ⟨bt,73,3,[(0,.slice A n c),(1,.slice (some ⟨ib,0,none⟩) E.length E.length),(2,ov)]⟩]) 0 ⟨aN _,fun j v h=>by omega⟩ (fun a w hs=>J5 hs) ?_;rintro k ⟨hk,ak⟩;by_cases bb:k< (bB d0).length
     ·obtain⟨adn,v,rfl,hv,al⟩:=bf.get bb;by_cases ah:v=y
      ·subst ah;rw[if_pos (by rw[f];exact List.any_eq_true.2 ⟨v,aB hv,decide_eq_true rfl⟩)]at hr;subst hr;try repeat' (first|refine KO ?_|(refine KV (b:=by first|exact U1 k|exact U3 (al.at 0 rfl)) (c:=?_))|refine aIx rfl ?_)
       all_goals exact aQ rfl rfl rfl
      ·try repeat' (first|refine KO ?_|(refine KV (b:=by first|exact U1 k|exact U3 (al.at 0 rfl)) (c:=?_))|refine KZ ?_)
       all_goals exact cY (k+1) ⟨by omega,fun j u h hj=>by
        rcases dL j k with h1|h1
        ·exact ak j u h1 hj
        ·obtain rfl:j=k:=by omega
         rw[hv]at hj;cases hj;exact ah⟩ (by omega) rfl PU PS
     ·rw[if_neg (by
       rw[f];intro h;obtain⟨v,h1,h2⟩:=List.any_eq_true.1 h;obtain⟨j,hj⟩:=List.mem_iff_getElem?.1 h1;exact ak j v (by have:=(List.getElem?_eq_some_iff.1 hj).1;omega) hj (of_decide_eq_true h2))]at hr
      try repeat' (refine KZ ?_)
      all_goals exact J2 (i+1,μ2) ⟨by dsimp only;omega,g.trans ao,hr⟩ (by dsimp only;omega)
    ·rw[decide_eq_false ca,dV]at f;rw[if_neg (by rw[f];simp)]at hr;try repeat' (first|refine KO ?_|(refine KV (b:=by first|exact U1 i|exact U1 p|exact U4 l|exact U4 r|exact U3 (an.at 0 rfl)) (c:=?_))|refine KZ ?_)
     all_goals exact J2 (i+1,μ1) ⟨by dsimp only;omega,g,hr⟩ (by dsimp only;omega)
  ·rw[decide_eq_false c3,dV]at f;rw[if_neg (by rw[f];simp)]at hr;rw[aq]at c3 hu;obtain⟨t,up,kid,fn,num,last⟩:=e;dsimp only at c3 hu l;try repeat' (first|refine KO ?_|(refine KV (b:=by first|exact U1 i|exact U4 l) (c:=?_))|refine KZ ?_)
   all_goals exact J2 (i+1,μ1) ⟨by dsimp only;omega,g,hr⟩ (by dsimp only;omega)
 ·obtain rfl:i=E.length:=by omega
  rw[ar]at hr;subst hr;try repeat' (refine KZ ?_)
  all_goals exact aQ rfl rfl rfl
end
end Go.Proofs.YtlllalmkkaolfaaGreatDoor
