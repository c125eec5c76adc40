/- Package read: statement lists, blocks. -/
import Derived.Test.YtknieidhopbngaaGreatQan
set_option maxRecDepth 20000
set_option maxHeartbeats 2000000
namespace Go.Proofs.YtknieidhopbngaaGreat
open Go.RowKit Go.Vcg
theorem qM{t:Nat}{b b' :Bool}{l l' :bG}(h:lk l t=some (.bool b))(e:b=b')(hr:pN l' l):pN ((t,.bool b')::l') l:=cZ (e▸h) hr
def TLB(μ:Mem)(x:List T×Bool)(v:Value):Prop:=∃u,v=.tuple #[u,.bool x.2]∧KR μ x.1 u
theorem UH{E:TkE}{r:RdR}{cs:Bool}{s:RdS}(hc:¬(s.e=0∧(aJ E s).k≠0∧isR E s ⟨#[125]⟩=false∧(cs&&(cP E s ⟨#[99,97,115,101]⟩||cP E s ⟨#[100,101,102,97,117,108,116]⟩))=false))(f:Nat)(acc:List T)(hd st:Bool):uQ E r cs f acc hd st s=((acc,st),s):=by
 cases f with
 |zero=>rfl
 |succ f=>rw[uQ,if_neg hc]
attribute [local irreducible] jE G GC GQ GA dV Calls IntKind.wrap Int.decLt Int.decLe
section
variable{E:TkE}{src:ByteArray}{V:RPl}{xb n:Nat}{r:RdR}{s:RdS}{μ:Mem}(hE:TOk E src)(hr:nB E src n r)(hw:rO E src V xb n r)(h8:∀b s,(r.stm b s).1.op=8→(r.stm b s).1.kids≠[])(hi:In E src s)(hm:RM E V μ)
include hE hr hw h8 hi hm
theorem CD(cs:Bool)(hn:s.e=0→8*(E.ts.length-s.i)+6≤n):zCR E V xb 12 [.pointer (some ⟨xb,0,none⟩),.bool cs] s (rC E r cs s).2 μ (fun μ' v=>TLB μ' (rC E r cs s).1 v):=by
 intro w hμ hO;have ah:=bF hO.diff;have hl:=hi.lt;have ar:=hm.few;obtain⟨Av,cv,Av2,cv2⟩:=V;obtain⟨ad,hA,-⟩:=xP hm hl;dsimp only at hA;subst hA;have tk2:∀k,k<E.ts.length→iK μ (ad.add (k*7)) (eB (tk E k)):=fun k hk=>by obtain⟨a,e,h⟩:=xP hm hk;cases e;exact h
 unfold rC;generalize hQ:uQ E r cs (E.ts.length+1) [] true false s=Q;refine aC Tryz.func12 rfl Tryz.ntmps12 (by simp) hμ hO ?_;try repeat' (refine KZ ?_)
 refine dH (ι:=Nat×List (T×Value)×RdS×Mem×Value×Bool×Bool) (fun i=>MLe μ i.2.2.2.1∧Kids i.2.2.2.1 i.2.1∧In E src i.2.2.1∧(i.2.2.1.e=0→8*(E.ts.length-i.2.2.1.i)+6≤n)∧(i.2.2.1.e=0→E.ts.length-i.2.2.1.i<i.1)∧i.2.1.length+i.1=E.ts.length+1∧Q=uQ E r cs i.1 (i.2.1.map (·.1)) i.2.2.2.2.2.1 i.2.2.2.2.2.2 i.2.2.1)
  (fun i=>i.1) (fun i=>i.2.2.2.1) (fun i=>[(0,.pointer (some ⟨xb,0,none⟩)),(1,.bool cs),(6,i.2.2.2.2.1),(7,.bool i.2.2.2.2.2.1),(8,.bool i.2.2.2.2.2.2)]) (fun i=>[.inr ⟨i.2.2.2.2.1,25,6,i.2.1.length,i.2.1.flatMap bV⟩,RB E ⟨some ad,cv,Av2,cv2⟩ xb i.2.2.1])
  (E.ts.length+1,[],s,μ,.slice none 0 0,true,false) ⟨MLe.refl _,Kids.nil _,hi,hn,fun _=>by dsimp only;omega,by simp,hQ.symm⟩ (fun a w hs=>(hs.kU 25 6).sel PU PS) ?_
 rintro⟨f,ps,s2,μ2,v,hd,st⟩ ⟨H2,l,d,z,hf,hlen,hJ⟩;dsimp only at H2 l d z hf hlen hJ⊢;have t2:=d.lt;refine iZ 0 rfl ?_;rintro A1 c1 rfl ak;by_cases hc:s2.e=0∧(aJ E s2).k≠0∧isR E s2 ⟨#[125]⟩=false∧(cs&&(cP E s2 ⟨#[99,97,115,101]⟩||cP E s2 ⟨#[100,101,102,97,117,108,116]⟩))=false
 ·obtain⟨f,rfl⟩:∃g,f=g+1:=⟨f-1,by have:=hf hc.1;omega⟩;have z:=z hc.1;have hf:=hf hc.1;rw[uQ,if_pos hc]at hJ;obtain⟨c1',c2',c3',c4'⟩:=hc;unfold bd at hJ;dsimp only at hJ;have g4:=h8 true s2;have w4:=(hr.stm true s2 d (by omega)).ok;have h4:=fun(μ9:Mem) (h9:MLe μ μ9)=>hw.stm true s2 μ9 d (by omega) (hm.mono h9);have m4:=(hr.stm true s2 d (by omega)).mv;generalize r.stm true s2=p9 at hJ h4 m4 g4 w4;obtain⟨x4,s4⟩:=p9;dsimp only at hJ h4 m4 g4 w4;have aa:=m4.inn d;have l4:=m4.le;have t4:=m4.lt;have pos4:=tF x4;have o:s4.e=0→s2.i<s4.i:=fun e=>by have:=(w4 e).1;omega
  generalize q:(hd&&decide ((aJ E s2).k=4∧x4.op=8∧(x4.kids.headD T.zero).op=31∧(x4.kids.headD T.zero).at' =(aJ E s2).at'))=u at hJ;generalize ae:(st||(u&&decide ((aJ E s2).s=⟨#[117,115,101,32,115,116,114,105,99,116]⟩∧(aJ E s2).to- (aJ E s2).at' =12)))=st1 at hJ;have ai:=hE.tb s2.i;have ao:=hE.pos s2.i;have aw:=hE.sm;have ap:0≤(aJ E s2).to∧(aJ E s2).to≤src.size:=ai;have au:0≤(aJ E s2).at' ∧(aJ E s2).at' ≤src.size:=ao;have hcell:iK μ2 (ad.add (s2.i*7)) (eB (aJ E s2)):=(tk2 s2.i t2).mono H2;by_cases aq:(aJ E s2).k=4
  ·by_cases al:x4.op=8
   ·obtain⟨y,ys,hy⟩:=hX (g4 al);have av:0<x4.kids.length:=by rw[hy];simp
    cases cs;all_goals
     try repeat' (first|refine KO ?_|(refine CF 22 ?_;refine HP1 1 rfl (gR d.lt (hm.mono ML)) ?_;(dsimp only[ca,na]))|(refine CF 23 ?_;refine HP2 1 rfl (gY d.lt (hm.mono ML) _) ?_;(dsimp only[ca,na]))|(refine CF 24 ?_;refine HP2 1 rfl (tP d.lt (hm.mono ML) _) ?_;(dsimp only[ca,na]))|(refine CF 25 ?_;refine HR2 1 rfl (h4 _ ML) ?_;(rintro v4 μ4 j ⟨u4,rfl,p⟩;(have o_u4:=p.one);(have H4:MLe μ μ4:=MLe.trans ML j);(have l:=l.mono j);(have hcell:=hcell.mono j));(dsimp only[ca,na]);(have af:=p);(obtain⟨A4,c4,rfl,an,ab⟩:=af.form);(obtain⟨ad4,uy,rfl,ag,ax,ay⟩:=ab 0 y (by rw[hy];rfl)))|refine XS0 ?_|(refine KV (b:=by first|exact U1 s2.i|exact U4 hcell) (c:=?_))|refine KZ ?_|refine NB fun b=>?_|(refine KB ?_ ?_<;>intro hp))
     all_goals try(exfalso;simp_all;done)
     refine aW 27 _ (by kernel_rfl) rfl (aK (aK (aG (aG aU)))) ?_;all_goals(refine D1 0 ?_;refine DD 1 ?_;refine D1 2 ?_;refine DD 3 ?_)
     all_goals(try(refine D7 4 ?_;(repeat' (refine KO ?_))))
     all_goals(refine D1 4 ?_;refine DD 5 ?_;refine D1 6 ?_;refine DD 7 ?_;refine DD 8 ?_)
     all_goals(try(refine D7 9 ?_;(repeat' (refine KO ?_))))
     all_goals(refine D1 9 ?_;refine DD 10 ?_;refine D2 11 rfl (by exact U1 0) ?_;refine DD 12 ?_;refine D2 13 rfl (by exact U4 ag) ?_;refine D1 14 ?_;refine DD 15 ?_;refine DD 16 ?_)
     all_goals(try(refine D7 17 ?_;(repeat' (refine KB ?_ ?_<;>intro hp))))
     all_goals(refine D1 17 ?_;(first|refine D1 18 ?_|refine DD 18 ?_);(first|refine D1 19 ?_|(refine D2 19 rfl (by exact U1 0) ?_));(first|refine D1 20 ?_|refine DD 20 ?_);(first|refine D1 21 ?_|(refine D2 21 rfl (by exact U4 ag) ?_));refine D1 22 ?_;(first|refine D1 23 ?_|refine DD 23 ?_);refine D1 24 ?_;refine DD 25 ?_;refine DD 26 ?_;refine D8 ?_)
     all_goals try repeat' (first|refine KZ ?_|(refine XAP fun v=>?_;refine bB 3 rfl ?_;rintro A2 c2 rfl x)|refine NB fun b=>?_|(refine KB ?_ ?_<;>intro hp))
     all_goals try(exfalso;simp_all;done)
     all_goals refine dZ (f,ps++[(x4,Value.slice (some ad4) x4.kids.length c4)],s4,μ4,.slice A2 (ps.length+1) c2,u,st1) ⟨H4,Kids.app l (Kids.single p),aa,fun e=>by have:=o e;dsimp only at e⊢;omega,fun e=>by have:=o e;dsimp only at e⊢;omega,by simp only[aB,aF,aL];omega,by dsimp only;rw[aE];exact hJ⟩ (by dsimp only;omega) rfl (cZ rfl (cZ rfl (cZ rfl (qM rfl (by rw[←q];simp_all) (qM rfl (by rw[←ae,←q];simp_all) eK))))) (by dsimp only;rw[aB,aD];exact PS)
   ·cases cs;all_goals
     try repeat' (first|refine KO ?_|(refine CF 22 ?_;refine HP1 1 rfl (gR d.lt (hm.mono ML)) ?_;(dsimp only[ca,na]))|(refine CF 23 ?_;refine HP2 1 rfl (gY d.lt (hm.mono ML) _) ?_;(dsimp only[ca,na]))|(refine CF 24 ?_;refine HP2 1 rfl (tP d.lt (hm.mono ML) _) ?_;(dsimp only[ca,na]))|(refine CF 25 ?_;refine HR2 1 rfl (h4 _ ML) ?_;(rintro v4 μ4 j ⟨u4,rfl,p⟩;(have o_u4:=p.one);(have H4:MLe μ μ4:=MLe.trans ML j);(have l:=l.mono j);(have hcell:=hcell.mono j));(dsimp only[ca,na]))|refine XS0 ?_|(refine KV (b:=by first|exact U1 s2.i|exact U4 hcell) (c:=?_))|refine KZ ?_|refine NB fun b=>?_|(refine KB ?_ ?_<;>intro hp))
     all_goals try(exfalso;simp_all;done)
     refine aW 27 _ (by kernel_rfl) rfl (aK (aK (aG (aG aU)))) ?_;all_goals(refine DD 0 ?_;refine DD 1 ?_;refine DD 2 ?_;refine DD 3 ?_)
     all_goals(try(refine D7 4 ?_;(repeat' (refine KO ?_))))
     all_goals(refine DD 4 ?_;refine DD 5 ?_;refine DD 6 ?_;refine DD 7 ?_;refine DD 8 ?_)
     all_goals(try(refine D7 9 ?_;(repeat' (refine KO ?_))))
     all_goals(refine DD 9 ?_;refine DD 10 ?_;refine DD 11 ?_;refine DD 12 ?_;refine DD 13 ?_;refine DD 14 ?_;refine DD 15 ?_;refine DD 16 ?_;(try refine D7 17 ?_);refine DD 17 ?_;refine DD 18 ?_;refine DD 19 ?_;refine DD 20 ?_;refine DD 21 ?_;refine DD 22 ?_;refine DD 23 ?_;refine DD 24 ?_;refine DD 25 ?_;refine DD 26 ?_;refine D8 ?_)
     all_goals try repeat' (first|refine KZ ?_|(refine XAP fun v=>?_;refine bB 3 rfl ?_;rintro A2 c2 rfl x)|refine NB fun b=>?_|(refine KB ?_ ?_<;>intro hp))
     all_goals try(exfalso;simp_all;done)
     all_goals refine dZ (f,ps++[(x4,u4)],s4,μ4,.slice A2 (ps.length+1) c2,u,st1) ⟨H4,Kids.app l (Kids.single p),aa,fun e=>by have:=o e;dsimp only at e⊢;omega,fun e=>by have:=o e;dsimp only at e⊢;omega,by simp only[aB,aF,aL];omega,by dsimp only;rw[aE];exact hJ⟩ (by dsimp only;omega) rfl (cZ rfl (cZ rfl (cZ rfl (qM rfl (by rw[←q];simp_all) (qM rfl (by rw[←ae,←q];simp_all) eK))))) (by dsimp only;rw[aB,aD];exact PS)
  ·cases cs;all_goals
    try repeat' (first|refine KO ?_|(refine CF 22 ?_;refine HP1 1 rfl (gR d.lt (hm.mono ML)) ?_;(dsimp only[ca,na]))|(refine CF 23 ?_;refine HP2 1 rfl (gY d.lt (hm.mono ML) _) ?_;(dsimp only[ca,na]))|(refine CF 24 ?_;refine HP2 1 rfl (tP d.lt (hm.mono ML) _) ?_;(dsimp only[ca,na]))|(refine CF 25 ?_;refine HR2 1 rfl (h4 _ ML) ?_;(rintro v4 μ4 j ⟨u4,rfl,p⟩;(have o_u4:=p.one);(have H4:MLe μ μ4:=MLe.trans ML j);(have l:=l.mono j);(have hcell:=hcell.mono j));(dsimp only[ca,na]))|refine XS0 ?_|(refine KV (b:=by first|exact U1 s2.i|exact U4 hcell) (c:=?_))|refine KZ ?_|refine NB fun b=>?_|(refine KB ?_ ?_<;>intro hp))
    all_goals try(exfalso;simp_all;done)
    refine aW 27 _ (by kernel_rfl) rfl (aK (aK (aG (aG aU)))) ?_;all_goals(refine DD 0 ?_;refine DD 1 ?_;refine DD 2 ?_;refine DD 3 ?_)
    all_goals(try(refine D7 4 ?_;(repeat' (refine KO ?_))))
    all_goals(refine DD 4 ?_;refine DD 5 ?_;refine DD 6 ?_;refine DD 7 ?_;refine DD 8 ?_;(try refine D7 9 ?_);refine DD 9 ?_;refine DD 10 ?_;refine DD 11 ?_;refine DD 12 ?_;refine DD 13 ?_;refine DD 14 ?_;refine DD 15 ?_;refine DD 16 ?_;(try refine D7 17 ?_);refine DD 17 ?_;refine DD 18 ?_;refine DD 19 ?_;refine DD 20 ?_;refine DD 21 ?_;refine DD 22 ?_;refine DD 23 ?_;refine DD 24 ?_;refine DD 25 ?_;refine DD 26 ?_;refine D8 ?_)
    all_goals try repeat' (first|refine KZ ?_|(refine XAP fun v=>?_;refine bB 3 rfl ?_;rintro A2 c2 rfl x)|refine NB fun b=>?_|(refine KB ?_ ?_<;>intro hp))
    all_goals try(exfalso;simp_all;done)
    all_goals refine dZ (f,ps++[(x4,u4)],s4,μ4,.slice A2 (ps.length+1) c2,u,st1) ⟨H4,Kids.app l (Kids.single p),aa,fun e=>by have:=o e;dsimp only at e⊢;omega,fun e=>by have:=o e;dsimp only at e⊢;omega,by simp only[aB,aF,aL];omega,by dsimp only;rw[aE];exact hJ⟩ (by dsimp only;omega) rfl (cZ rfl (cZ rfl (cZ rfl (qM rfl (by rw[←q];simp_all) (qM rfl (by rw[←ae,←q];simp_all) eK))))) (by dsimp only;rw[aB,aD];exact PS)
 ·rw[UH hc]at hJ;subst hJ;try repeat' (first|refine KO ?_|(refine CF 22 ?_;refine HP1 1 rfl (gR d.lt (hm.mono ML)) ?_;dsimp only[ca,na])|(refine CF 23 ?_;refine HP2 1 rfl (gY d.lt (hm.mono ML) _) ?_;dsimp only[ca,na])|(refine CF 24 ?_;refine HP2 1 rfl (tP d.lt (hm.mono ML) _) ?_;dsimp only[ca,na])|refine KZ ?_|(refine KB ?_ ?_<;>intro hp))
  all_goals try(exfalso;simp_all;done)
  all_goals exact tO 1 ah rfl (aN rfl) (aN rfl) rfl (.refl _) fun μ' hle aj=>⟨_,rfl,KR.bI (bD (enc:=bV) (xs:=ps) (aj _ (aA)) rfl (by simp) rfl) ak.cap (l.mono hle)⟩
end
end Go.Proofs.YtknieidhopbngaaGreat
namespace Go.Vcg
open Go.RowKit
section
variable{P:Program}{X:Ctx}{ops:Array Oper}{Q:Exit→Act→World→Prop}{rest:List Oper}{μ:Mem}{l:bG}{L:List Bk}{ds:Option Nat}{ty:TypeId}{pos:String}{af:Array Edge}{gd:Option (Nat×Bool)}{p q:Operand}{t t2:TypeId}{x y z:Int}
theorem zN(hx0:ev l p=some (.int .i64 x))(hx1:ev l q=some (.int .i64 y))(e:IntKind.i64.wrap (BitVec.ofInt 64 x&&& BitVec.ofInt 64 y).toNat=z):Val P μ l L ⟨ds,.binOp .and t p q t2,ty,pos,af,gd⟩ (.int .i64 z):=
 fun a w hs=>by have e0:=hs.eval hx0;have e1:=hs.eval hx1;subst e;generalize a.eval=ρ at e0 e1;simp[execOp,e0,e1,eqGuard,binOp,Op.intBits];rfl
theorem oI(hx0:ev l p=some (.int .i64 x))(hx1:ev l q=some (.int .i64 y))(e:IntKind.i64.wrap (BitVec.ofInt 64 x|||BitVec.ofInt 64 y).toNat=z):Val P μ l L ⟨ds,.binOp .or t p q t2,ty,pos,af,gd⟩ (.int .i64 z):=
 fun a w hs=>by have e0:=hs.eval hx0;have e1:=hs.eval hx1;subst e;generalize a.eval=ρ at e0 e1;simp[execOp,e0,e1,eqGuard,binOp,Op.intBits];rfl
theorem nY{L' :List Bk}(hL:Sel L' L)(h:G P X ops Q rest μ l L'):G P X ops Q rest μ l L:=fun a w hs=>h a w (hs.sel (fun _ _ h=>h) hL)
end
end Go.Vcg
namespace Go.Proofs.YtknieidhopbngaaGreat
open Go.RowKit Go.Vcg
attribute [local irreducible] jE G GC GQ GA dV Calls IntKind.wrap Int.decLt Int.decLe
section
variable{E:TkE}{src:ByteArray}{V:RPl}{xb n:Nat}{r:RdR}{s:RdS}{μ:Mem}(hE:TOk E src)(hr:nB E src n r)(hw:rO E src V xb n r)(h8:∀b s,(r.stm b s).1.op=8→(r.stm b s).1.kids≠[])(hi:In E src s)(hm:RM E V μ)
include hE hr hw h8 hi hm
theorem kF(hn:8*(E.ts.length-s.i)≤n+2):zCR E V xb 41 [.pointer (some ⟨xb,0,none⟩)] s (hH E r s).2 μ (fun μ' v=>TB μ' (hH E r s).1 v):=by
 intro w hμ l;have k:=bF l.diff;have hl:=hi.lt;generalize a:hH E r s=q;unfold hH bd at a;dsimp only at a;obtain⟨s1,e1,m1,l1,t1,o1⟩:=bW hE (mv0 hi) ⟨#[123]⟩;have d:=m1.inn hi;rw[e1]at a;have h2:=fun(μ9:Mem) (u:MLe μ μ9)=>CD hE hr hw h8 d (hm.mono u) false (fun e=>by have:=o1 e;omega);have m2:=(vO hE hr false d (fun e=>by have:=o1 e;omega)).mv;generalize rC E r false s1=p9 at a h2 m2;obtain⟨x2,s2⟩:=p9;dsimp only at a h2 m2;have c:=m2.inn d;have l2:=m2.le;have t2:=m2.lt;obtain⟨ks,kb⟩:=x2;dsimp only at a h2;obtain⟨s3,e3,m3,l3,t3,o3⟩:=bW hE (mv0 c) ⟨#[125]⟩;have p:=m3.inn c;rw[e3]at a;subst a;refine aC Tryz.func41 rfl Tryz.ntmps41 (by simp) hμ l ?_;try repeat' (first|refine KO ?_|(refine CF 22 ?_;refine HP1 1 rfl (gR hi.lt (hm.mono ML)) ?_;dsimp only[ca,na])|(refine CF 65 ?_;refine HU2 2 rfl (e1▸fJ hi.lt (hm.mono ML) _) ?_;intro v9;dsimp only[ca,na])|(refine CF 12 ?_;refine HR2 2 rfl (h2 _ ML) ?_;(rintro v2 μ2 g ⟨u2,rfl,j⟩;have h:=j;obtain⟨Ak,ck,rfl,-,-⟩:=h.form;have H2:MLe μ μ2:=MLe.trans ML g);dsimp only[ca,na])|(refine CF 65 ?_;refine HU2 2 rfl (e3▸fJ c.lt (hm.mono ML) _) ?_;intro v9;dsimp only[ca,na])|refine KZ ?_|refine NB fun b=>?_)
 all_goals exact tO 2 k rfl (by exact(RG 1 rfl rfl rfl rfl rfl)) (aN rfl) rfl (.refl _) fun μ' hle o=>⟨_,rfl,j.mono hle⟩
theorem pX(a bits:Int)(x:ByteArray)(hb:bits=0∨bits=1∨bits=4∨bits=5∨bits=8∨bits=12)(hn:8*(E.ts.length-s.i)≤n+2):zCR E V xb 106 [.pointer (some ⟨xb,0,none⟩),.agg (dG (T.mk 4 a bits 0 x []) (.slice none 0 0)).toArray] s (nL E r a bits x s).2 μ (fun μ' v=>TV μ' (nL E r a bits x s).1 v):=by
 intro w hμ y;have l:=bF y.diff;have hl:=hi.lt;generalize o:nL E r a bits x s=q;unfold nL bd at o;dsimp only at o;have aa:∃s1:RdS,({ s with gen:=decide (bits/4%2=1) }:RdS)=s1∧In E src s1∧s1.i=s.i:=⟨_,rfl,⟨hi.lt,hi.la,hi.bg⟩,rfl⟩;obtain⟨s1,e1,u,i1⟩:=aa;rw[e1]at o;have h2:=fun(μ9:Mem) (h9:MLe μ μ9)=>HD hE hr hw u (hm.mono h9) (by omega);have m2:=(yT hE hr u (by omega)).mv;generalize lG E r s1=p9 at o h2 m2;obtain⟨x2,s2⟩:=p9;dsimp only at o h2 m2;have p:=m2.inn u;have l2:=m2.le;have t2:=m2.lt;have h3:=fun(μ9:Mem) (h9:MLe μ μ9)=>kF hE hr hw h8 p (hm.mono h9) (by omega);have m3:=(iT hE hr p (by omega)).mv;generalize hH E r s2=p9 at o h3 m3;obtain⟨x3,s3⟩:=p9;dsimp only at o h3 m3;have ab:=m3.inn p;have l3:=m3.le;have t3:=m3.lt;obtain⟨kx,kb⟩:=x3;dsimp only at o h3;subst o e1;rcases hb with rfl|rfl|rfl|rfl|rfl|rfl
 ·cases kb;all_goals
   refine aC Tryz.func106 rfl Tryz.ntmps106 (by simp) hμ y ?_;try repeat' (first|refine KO ?_|(refine CF 88 ?_;(refine nY (jT (.refl _) (jT (.refl _) (jT (x:=RB E V xb { s with gen:=decide ((0:Int)/4%2=1) }) (.cells PU) (.nil _)))) ?_);refine HR1 2 rfl (h2 _ ML) ?_;(rintro v2 μ2 h ⟨u2,rfl,d⟩;(have o_u2:=d.one);(have H2:MLe μ μ2:=MLe.trans ML h));(dsimp only[ca,na]))|(refine CF 41 ?_;refine HR1 3 rfl (h3 _ ML) ?_;(rintro v3 μ3 g ⟨u3,rfl,j⟩;(have o_u3:=j.one);(have H3:MLe μ μ3:=MLe.trans ML g);(have d:=d.mono g));(dsimp only[ca,na]))|refine XS0 ?_|(refine KV (b:=by first|((with_reducible apply zN (z:=0));exact rfl;exact rfl;decide+kernel)|((with_reducible apply oI (z:=64));exact rfl;exact rfl;decide+kernel)) (c:=?_))|refine KZ ?_|refine NB fun b=>?_)
   exact eS 5 l rfl (by exact(RG 3 rfl rfl rfl rfl rfl)) rfl (.cells PU) fun μ' hle k=>⟨_,rfl,KR.lit [(x2,u2),(kx,u3)] (k _ (aA)) rfl (by repeat first|exact bH|refine bA rfl ?_) (Kids.two (d.mono hle) (j.mono hle))⟩
 ·cases kb;all_goals
   refine aC Tryz.func106 rfl Tryz.ntmps106 (by simp) hμ y ?_;try repeat' (first|refine KO ?_|(refine CF 88 ?_;(refine nY (jT (.refl _) (jT (.refl _) (jT (x:=RB E V xb { s with gen:=decide ((1:Int)/4%2=1) }) (.cells PU) (.nil _)))) ?_);refine HR1 2 rfl (h2 _ ML) ?_;(rintro v2 μ2 h ⟨u2,rfl,d⟩;(have o_u2:=d.one);(have H2:MLe μ μ2:=MLe.trans ML h));(dsimp only[ca,na]))|(refine CF 41 ?_;refine HR1 3 rfl (h3 _ ML) ?_;(rintro v3 μ3 g ⟨u3,rfl,j⟩;(have o_u3:=j.one);(have H3:MLe μ μ3:=MLe.trans ML g);(have d:=d.mono g));(dsimp only[ca,na]))|refine XS0 ?_|(refine KV (b:=by first|((with_reducible apply zN (z:=0));exact rfl;exact rfl;decide+kernel)|((with_reducible apply oI (z:=65));exact rfl;exact rfl;decide+kernel)) (c:=?_))|refine KZ ?_|refine NB fun b=>?_)
   exact eS 5 l rfl (by exact(RG 3 rfl rfl rfl rfl rfl)) rfl (.cells PU) fun μ' hle k=>⟨_,rfl,KR.lit [(x2,u2),(kx,u3)] (k _ (aA)) rfl (by repeat first|exact bH|refine bA rfl ?_) (Kids.two (d.mono hle) (j.mono hle))⟩
 ·cases kb;all_goals
   refine aC Tryz.func106 rfl Tryz.ntmps106 (by simp) hμ y ?_;try repeat' (first|refine KO ?_|(refine CF 88 ?_;(refine nY (jT (.refl _) (jT (.refl _) (jT (x:=RB E V xb { s with gen:=decide ((4:Int)/4%2=1) }) (.cells PU) (.nil _)))) ?_);refine HR1 2 rfl (h2 _ ML) ?_;(rintro v2 μ2 h ⟨u2,rfl,d⟩;(have o_u2:=d.one);(have H2:MLe μ μ2:=MLe.trans ML h));(dsimp only[ca,na]))|(refine CF 41 ?_;refine HR1 3 rfl (h3 _ ML) ?_;(rintro v3 μ3 g ⟨u3,rfl,j⟩;(have o_u3:=j.one);(have H3:MLe μ μ3:=MLe.trans ML g);(have d:=d.mono g));(dsimp only[ca,na]))|refine XS0 ?_|(refine KV (b:=by first|((with_reducible apply zN (z:=4));exact rfl;exact rfl;decide+kernel)|((with_reducible apply oI (z:=68));exact rfl;exact rfl;decide+kernel)) (c:=?_))|refine KZ ?_|refine NB fun b=>?_)
   exact eS 5 l rfl (by exact(RG 3 rfl rfl rfl rfl rfl)) rfl (.cells PU) fun μ' hle k=>⟨_,rfl,KR.lit [(x2,u2),(kx,u3)] (k _ (aA)) rfl (by repeat first|exact bH|refine bA rfl ?_) (Kids.two (d.mono hle) (j.mono hle))⟩
 ·cases kb;all_goals
   refine aC Tryz.func106 rfl Tryz.ntmps106 (by simp) hμ y ?_;try repeat' (first|refine KO ?_|(refine CF 88 ?_;(refine nY (jT (.refl _) (jT (.refl _) (jT (x:=RB E V xb { s with gen:=decide ((5:Int)/4%2=1) }) (.cells PU) (.nil _)))) ?_);refine HR1 2 rfl (h2 _ ML) ?_;(rintro v2 μ2 h ⟨u2,rfl,d⟩;(have o_u2:=d.one);(have H2:MLe μ μ2:=MLe.trans ML h));(dsimp only[ca,na]))|(refine CF 41 ?_;refine HR1 3 rfl (h3 _ ML) ?_;(rintro v3 μ3 g ⟨u3,rfl,j⟩;(have o_u3:=j.one);(have H3:MLe μ μ3:=MLe.trans ML g);(have d:=d.mono g));(dsimp only[ca,na]))|refine XS0 ?_|(refine KV (b:=by first|((with_reducible apply zN (z:=4));exact rfl;exact rfl;decide+kernel)|((with_reducible apply oI (z:=69));exact rfl;exact rfl;decide+kernel)) (c:=?_))|refine KZ ?_|refine NB fun b=>?_)
   exact eS 5 l rfl (by exact(RG 3 rfl rfl rfl rfl rfl)) rfl (.cells PU) fun μ' hle k=>⟨_,rfl,KR.lit [(x2,u2),(kx,u3)] (k _ (aA)) rfl (by repeat first|exact bH|refine bA rfl ?_) (Kids.two (d.mono hle) (j.mono hle))⟩
 ·cases kb;all_goals
   refine aC Tryz.func106 rfl Tryz.ntmps106 (by simp) hμ y ?_;try repeat' (first|refine KO ?_|(refine CF 88 ?_;(refine nY (jT (.refl _) (jT (.refl _) (jT (x:=RB E V xb { s with gen:=decide ((8:Int)/4%2=1) }) (.cells PU) (.nil _)))) ?_);refine HR1 2 rfl (h2 _ ML) ?_;(rintro v2 μ2 h ⟨u2,rfl,d⟩;(have o_u2:=d.one);(have H2:MLe μ μ2:=MLe.trans ML h));(dsimp only[ca,na]))|(refine CF 41 ?_;refine HR1 3 rfl (h3 _ ML) ?_;(rintro v3 μ3 g ⟨u3,rfl,j⟩;(have o_u3:=j.one);(have H3:MLe μ μ3:=MLe.trans ML g);(have d:=d.mono g));(dsimp only[ca,na]))|refine XS0 ?_|(refine KV (b:=by first|((with_reducible apply zN (z:=0));exact rfl;exact rfl;decide+kernel)|((with_reducible apply oI (z:=72));exact rfl;exact rfl;decide+kernel)) (c:=?_))|refine KZ ?_|refine NB fun b=>?_)
   exact eS 5 l rfl (by exact(RG 3 rfl rfl rfl rfl rfl)) rfl (.cells PU) fun μ' hle k=>⟨_,rfl,KR.lit [(x2,u2),(kx,u3)] (k _ (aA)) rfl (by repeat first|exact bH|refine bA rfl ?_) (Kids.two (d.mono hle) (j.mono hle))⟩
 ·cases kb;all_goals
   refine aC Tryz.func106 rfl Tryz.ntmps106 (by simp) hμ y ?_;try repeat' (first|refine KO ?_|(refine CF 88 ?_;(refine nY (jT (.refl _) (jT (.refl _) (jT (x:=RB E V xb { s with gen:=decide ((12:Int)/4%2=1) }) (.cells PU) (.nil _)))) ?_);refine HR1 2 rfl (h2 _ ML) ?_;(rintro v2 μ2 h ⟨u2,rfl,d⟩;(have o_u2:=d.one);(have H2:MLe μ μ2:=MLe.trans ML h));(dsimp only[ca,na]))|(refine CF 41 ?_;refine HR1 3 rfl (h3 _ ML) ?_;(rintro v3 μ3 g ⟨u3,rfl,j⟩;(have o_u3:=j.one);(have H3:MLe μ μ3:=MLe.trans ML g);(have d:=d.mono g));(dsimp only[ca,na]))|refine XS0 ?_|(refine KV (b:=by first|((with_reducible apply zN (z:=4));exact rfl;exact rfl;decide+kernel)|((with_reducible apply oI (z:=76));exact rfl;exact rfl;decide+kernel)) (c:=?_))|refine KZ ?_|refine NB fun b=>?_)
   exact eS 5 l rfl (by exact(RG 3 rfl rfl rfl rfl rfl)) rfl (.cells PU) fun μ' hle k=>⟨_,rfl,KR.lit [(x2,u2),(kx,u3)] (k _ (aA)) rfl (by repeat first|exact bH|refine bA rfl ?_) (Kids.two (d.mono hle) (j.mono hle))⟩
end
end Go.Proofs.YtknieidhopbngaaGreat
namespace Go.Vcg
open Go.RowKit
section
variable{P:Program}{X:Ctx}{ops:Array Oper}{Q:Exit→Act→World→Prop}{rest:List Oper}{μ:Mem}{l:bG}{L Lr:List Bk}{w:World}
theorem gU{ds:Option Nat}{ty:TypeId}{pos:String}{af:Array Edge}{gd:Option (Nat×Bool)}{p q:Operand}{t e:TypeId}{len:Nat}{cs:Array Value}{i:Int}{v:Value}(hx0:ev l p=some (.agg cs))(hx1:ev l q=some (.int .i64 i))(ht:P.underlying t=some (.array len e))(c:pM P e=some false)(hs:gW P e=some 1)(hi:(i.toNat:Int)=i)(hk:Nat.blt i.toNat len=true)(hv:cs[i.toNat]? =some v):Val P μ l L ⟨ds,.index t p q,ty,pos,af,gd⟩ v:=fun a w b=>by
 have e0:=b.eval hx0;have e1:=b.eval hx1;generalize a.eval=ρ at e0 e1;generalize i.toNat=k at hi hk hv;subst hi;have hk:k<len:=by simpa using hk
 simp[execOp,e0,e1,Instr.index,asIntOf,run_underlying ht,run_sizeOf hs w,hk,vA c hv]
theorem KS:∀{Lr:List Bk} {x y:Bk},jC x y→Sel (Lr++[x]) (Lr++[y])
 |[],_,_,h=>jT h (.nil _)
 |_::_,_,_,h=>jT (.refl _) (KS h)
theorem aBe{fn:Func}{n:Nat}{r:ResultVar}{v:Value}{μ0:Mem}{M:List Nat}{R:Mem→Value→Prop}{x y:Bk}(b:∀D,M.count D≤1)(hr:fn.results= #[r])(h:RV P μ l L r v)(hL:splitB (L.length-1) L=some (Lr,[y]))(a:jC x y)
 (hp:∀μ',MLe μ μ' →(∀z∈Lr,Bk.sh z μ')→R μ' v):
 GQ ⟨w,μ0,M,n⟩ (bodyPost P fn (fun e w' =>∃(v:Value) (μ' :Mem) (_:Unit),e=.returned v∧iO M w w' μ0 [x] μ' ∧R μ' v)) .ret μ l L:=eS _ b hr h hL a hp
theorem LD{fn:Func}{n:Nat}{r r2:ResultVar}{v v2:Value}{μ0:Mem}{M:List Nat}{R:Mem→Value→Prop}{x y:Bk}(b:∀D,M.count D≤1)(hr:fn.results= #[r,r2])(h:RV P μ l L r v)(h2:RV P μ l L r2 v2)(hL:splitB (L.length-1) L=some (Lr,[y]))(a:jC x y)
 (hp:∀μ',MLe μ μ' →(∀z∈Lr,Bk.sh z μ')→R μ' (.tuple #[v,v2])):
 GQ ⟨w,μ0,M,n⟩ (bodyPost P fn (fun e w' =>∃(v:Value) (μ' :Mem) (_:Unit),e=.returned v∧iO M w w' μ0 [x] μ' ∧R μ' v)) .ret μ l L:=tO _ b hr h h2 hL a hp
end
end Go.Vcg
namespace Go.Proofs.YtknieidhopbngaaGreat
section
open Go.RowKit Go.Vcg
section
variable{X:Ctx}{ops:Array Oper}{Q:Exit→Act→World→Prop}{rest:List Oper}{μ:Mem}{l:bG}{L Lr:List Bk}{o:Oper}{d:Nat}{f:FuncId}{args:List Value}{xb:Nat}{s s' :RdS}{E:TkE}{V:RPl}
theorem HY{v:Value}(hd:o.dst=some d)(hn:Nat.blt d X.n=true)(hw:dW ops l o=some true)(hr:Ent Tryz.prog μ l L o f args.toArray)(hL:splitB (L.length-1) L=some (Lr,[RB E V xb s]))(hc:CP E V xb f args s s' v μ)
 (h:G Tryz.prog X ops Q rest μ ((d,v)::l) (Lr++[RB E V xb s'])):G Tryz.prog X ops Q (o::rest) μ l L:=ZR _ hd hn hw hr hL hc h
theorem kM{P:Program}{y:Bk}{s2:RdS}(hL:splitB (L.length-1) L=some (Lr,[y]))(h:jC (RB E V xb s2) y)(g:G P X ops Q rest μ l (Lr++[RB E V xb s2])):G P X ops Q rest μ l L:=
 nY (iA hL▸KS h) g
end
theorem KR.eT{μ:Mem}{b t sz:Nat}{cs:bG}{n:Nat}(ps:List (T×Value))(h:Bk.sh (.inl ⟨b,t,sz,cs⟩) μ)(hn:ps.length=n)(hc:LC cs 0 (n*6) (ps.flatMap bV))(hk:Kids μ ps):KR μ (ps.map (·.1)) (.slice (some ⟨b,0,none⟩) n n):=KR.lit ps h hn hc hk
section
variable{P:Program}{μ:Mem}{l:bG}{L Lr:List Bk}{w:World}{fn:Func}{n:Nat}{r r2:ResultVar}{μ0:Mem}{M:List Nat}{x y:Bk}{t:T}{u:Value}
theorem aX(c:∀D,M.count D≤1)(hr:fn.results= #[r])(h:RV P μ l L r (.agg (dG t u).toArray))(hL:splitB (L.length-1) L=some (Lr,[y]))(b:jC x y)(hp:∀μ',MLe μ μ' →(∀z∈Lr,Bk.sh z μ')→KR μ' t.kids u):
 GQ ⟨w,μ0,M,n⟩ (bodyPost P fn (fun e w' =>∃(v:Value) (μ' :Mem) (_:Unit),e=.returned v∧iO M w w' μ0 [x] μ' ∧TV μ' t v)) .ret μ l L:=aBe (R:=fun μ' v=>TV μ' t v) c hr h hL b fun μ' hle a=>⟨u,rfl,hp μ' hle a⟩
theorem jN{b:Bool}(d:∀D,M.count D≤1)(hr:fn.results= #[r,r2])(h:RV P μ l L r (.agg (dG t u).toArray))(h2:RV P μ l L r2 (.bool b))(hL:splitB (L.length-1) L=some (Lr,[y]))(c:jC x y)(hp:∀μ',MLe μ μ' →(∀z∈Lr,Bk.sh z μ')→KR μ' t.kids u):
 GQ ⟨w,μ0,M,n⟩ (bodyPost P fn (fun e w' =>∃(v:Value) (μ' :Mem) (_:Unit),e=.returned v∧iO M w w' μ0 [x] μ' ∧TB μ' (t,b) v)) .ret μ l L:=LD (R:=fun μ' v=>TB μ' (t,b) v) d hr h h2 hL c fun μ' hle a=>⟨u,rfl,hp μ' hle a⟩
theorem kT{b:Int}(d:∀D,M.count D≤1)(hr:fn.results= #[r,r2])(h:RV P μ l L r (.agg (dG t u).toArray))(h2:RV P μ l L r2 (.int .i64 b))(hL:splitB (L.length-1) L=some (Lr,[y]))(c:jC x y)(hp:∀μ',MLe μ μ' →(∀z∈Lr,Bk.sh z μ')→KR μ' t.kids u):
 GQ ⟨w,μ0,M,n⟩ (bodyPost P fn (fun e w' =>∃(v:Value) (μ' :Mem) (_:Unit),e=.returned v∧iO M w w' μ0 [x] μ' ∧TI μ' (t,b) v)) .ret μ l L:=LD (R:=fun μ' v=>TI μ' (t,b) v) d hr h h2 hL c fun μ' hle a=>⟨u,rfl,hp μ' hle a⟩
end
section
variable{E:TkE}{src:ByteArray}{V:RPl}{xb:Nat}{s s1 s2:RdS}{μ:Mem}
theorem TL(hE:TOk E src)(hm:Mv E (src.size:Int) s s1)(x:ByteArray):∃s2,cH E x s1=s2∧Mv E (src.size:Int) s s2∧s1.i≤s2.i∧s2.i<E.ts.length∧s2.e=s1.e:=by
 have h:=(Mv.refl (E:=E) (L:=(src.size:Int)) hm.lt).eat (x:=x);refine⟨_,rfl,hm.trans h,h.le,h.lt,?_⟩;unfold cH;split
 ·exact zX
 ·rfl
theorem bK(hi:In E src s)(hm:RM E V μ):CP E V xb 22 [.pointer (some ⟨xb,0,none⟩)] s s (oN (aJ E s)) μ:=gR hi.lt hm
theorem dD(hi:In E src s)(hm:RM E V μ)(x:ByteArray):CP E V xb 23 [.pointer (some ⟨xb,0,none⟩),.string x] s s (.bool (isR E s x)) μ:=gY hi.lt hm x
theorem cS(hi:In E src s)(hm:RM E V μ)(x:ByteArray):CP E V xb 24 [.pointer (some ⟨xb,0,none⟩),.string x] s s (.bool (cP E s x)) μ:=tP hi.lt hm x
theorem mU(hi:In E src s)(hm:RM E V μ)(x:ByteArray):CP E V xb 54 [.pointer (some ⟨xb,0,none⟩),.string x] s s (.bool (mZ E s x)) μ:=SB hi.lt hm x
theorem oF(hi:In E src s)(hm:RM E V μ):CP E V xb 44 [.pointer (some ⟨xb,0,none⟩),.int .i64 1] s s (oN (ahR E 1 s)) μ:=qY hi.lt hm 1 (by decide)
theorem nE(hi:In E src s)(hm:RM E V μ):CP E V xb 110 [.pointer (some ⟨xb,0,none⟩)] s s (.agg (dG (kI E s) (.slice none 0 0)).toArray) μ:=by
 intro w hμ c;have a:=bF c.diff;refine aC Tryz.func110 rfl Tryz.ntmps110 (by simp) hμ c ?_;try repeat' (first|refine KO ?_|(refine CF 22 ?_;refine GP1 rfl (bK (by assumption) (hm.mono ML)) ?_;dsimp only[ca,na])|refine KZ ?_|refine NB fun b=>?_)
 exact kS 1 a rfl (by exact(RG 0 rfl rfl rfl rfl rfl)) rfl rfl rfl
theorem pW(hi:In E src s)(hm:RM E V μ):CP E V xb 108 [.pointer (some ⟨xb,0,none⟩)] s s (.bool (kJ E s)) μ:=aBn hi.lt hm
theorem OR(hi:In E src s)(hm:RM E V μ)(b:Bool):CP E V xb 129 [.pointer (some ⟨xb,0,none⟩),.bool b] s s (.int .i64 (eI E b s)) μ:=aBj hi.lt hm b
theorem gZ(k:Nat):CP E V xb 168 [.pointer (some ⟨xb,0,none⟩),.int .i64 (k:Int)] s s (.int .i64 (lR k s)) μ:=aBl k
theorem ID(hi:In E src s)(hm:RM E V μ){k:Nat}(hk:k<E.ts.length):CP E V xb 61 [.pointer (some ⟨xb,0,none⟩),.int .i64 (k:Int)] s s (.bool (wE E k s)) μ:=aEw hi.lt hm k hk
theorem bN(e:bJ E s=s1)(hi:In E src s)(hm:RM E V μ):CP E V xb 42 [.pointer (some ⟨xb,0,none⟩)] s s1 (oN (aJ E s)) μ:=e▸fH hi.lt hm
theorem dF{x:ByteArray}(e:eP E x s=s1)(hi:In E src s)(hm:RM E V μ):CU E V xb 65 [.pointer (some ⟨xb,0,none⟩),.string x] s s1 μ:=e▸fJ hi.lt hm x
theorem eU{x:ByteArray}(e:cH E x s=s1)(hi:In E src s)(hm:RM E V μ):CP E V xb 53 [.pointer (some ⟨xb,0,none⟩),.string x] s s1 (.bool (isR E s x)) μ:=e▸lF hi.lt hm x
theorem lY(e:iE E s=s1)(hi:In E src s)(hm:RM E V μ):CU E V xb 26 [.pointer (some ⟨xb,0,none⟩)] s s1 μ:=e▸nT hi.lt hm
theorem oR(e:rJ E s=s1)(hi:In E src s)(hm:RM E V μ):CU E V xb 45 [.pointer (some ⟨xb,0,none⟩)] s s1 μ:=e▸aBm hi.lt hm
theorem mC{a x:Int}(e:iF E a x s=s1)(hi:In E src s)(hm:RM E V μ):CU E V xb 46 [.pointer (some ⟨xb,0,none⟩),.int .i64 a,.int .i64 x] s s1 μ:=e▸sT hm (Nat.lt_of_le_of_lt (cU _) hi.lt) a x
end
end
section
open Go.RowKit Go.Vcg
attribute [local irreducible] jE G GC GQ GA dV Calls IntKind.wrap Int.decLt Int.decLe
section
variable{E:TkE}{src:ByteArray}{V:RPl}{xb n:Nat}{r:RdR}{s:RdS}{μ:Mem}(hE:TOk E src)(hr:nB E src n r)(hw:rO E src V xb n r)(h8:∀b s,(r.stm b s).1.op=8→(r.stm b s).1.kids≠[])(hi:In E src s)(hm:RM E V μ)
include hE hr hw h8 hi hm
theorem AY(decl:Bool)(ah:(aJ E s).k≠0)(hn:8*(E.ts.length-s.i)≤n+2):zCR E V xb 67 [.pointer (some ⟨xb,0,none⟩),.bool decl] s (kC E r decl s).2 μ (fun μ' v=>TV μ' (kC E r decl s).1 v):=by
 intro w hμ hO;have o:=bF hO.diff;have hl:=hi.lt;generalize a:kC E r decl s=q;unfold kC at a;dsimp only at a;cases decl
 ·obtain⟨s1,e1,m1,i1,t1,o1,-⟩:=aT hE (mv0 hi) ah;have af:=m1.inn hi;rw[e1]at a;obtain⟨s2,e2,m2,l2,t2,o2⟩:=TL hE (mv0 af) ⟨#[42]⟩;have h:=m2.inn af;rw[e2]at a;by_cases p:isR E s1 ⟨#[42]⟩=true
  ·rw[if_pos p]at a;rw[show((if(false:Bool)=true then(1:Int)else 0)+ (4:Int))=4 from rfl]at a;by_cases g:(aJ E s2).k=1∧(aJ E s2).s≠⟨#[108,101,116]⟩
   ·rw[if_pos g]at a;obtain⟨aa,y⟩:=id g;obtain⟨s3,e3,m3,i3,t3,o3,-⟩:=aT hE (mv0 h) (fun e=>by have:=g.1;omega);have d:=m3.inn h;rw[e3]at a;have h4:=fun(μ9:Mem) (h9:MLe μ μ9)=>pX hE hr hw h8 d (hm.mono h9) (aJ E s).at' 4 ((aJ E s2).s) (by decide) (by omega);have m4:=(mT hE hr (aJ E s).at' 4 ((aJ E s2).s) d (by omega)).mv;generalize nL E r (aJ E s).at' 4 (aJ E s2).s s3=p9 at a h4 m4;obtain⟨x,s4⟩:=p9;dsimp only at a h4 m4;have ae:=m4.inn d;have l4:=m4.le;have t4:=m4.lt;subst a;refine aC Tryz.func67 rfl Tryz.ntmps67 (by simp) hμ hO ?_;try repeat' (first|refine PBT ?_|refine KO ?_|(refine CF 22 ?_;refine GP1 rfl (bK (by assumption) (hm.mono ML)) ?_;dsimp only[ca,na])|(refine CF 42 ?_;refine GP1 rfl (bN (by assumption) (by assumption) (hm.mono ML)) ?_;dsimp only[ca,na])|(refine CF 53 ?_;refine GP2 rfl (eU (by assumption) (by assumption) (hm.mono ML)) ?_;dsimp only[ca,na])|(refine CF 106 ?_;refine GR2 rfl (h4 _ ML) ?_;(rintro v4 μ4 j ⟨u4,rfl,l⟩;have o_u4:=l.one;have H4:MLe μ μ4:=MLe.trans ML j);dsimp only[ca,na])|refine XS1 ?_|(refine KV (b:=by((with_reducible apply oI (z:=4));exact rfl;exact rfl;decide+kernel)) (c:=?_))|refine KZ ?_|refine NB fun b=>?_)
    all_goals(apply aX o rfl;exact(RG 1 rfl rfl rfl rfl rfl);exact rfl;exact .refl _;exact fun μ' hle u=>l.mono hle)
   ·rw[if_neg g]at a;rw[if_neg (by decide)]at a;have h3:=fun(μ9:Mem) (h9:MLe μ μ9)=>pX hE hr hw h8 h (hm.mono h9) (aJ E s).at' 4 (empty) (by decide) (by omega);have m3:=(mT hE hr (aJ E s).at' 4 (empty) h (by omega)).mv;generalize nL E r (aJ E s).at' 4 empty s2=p9 at a h3 m3;obtain⟨x,s3⟩:=p9;dsimp only at a h3 m3;have d:=m3.inn h;have l3:=m3.le;have t3:=m3.lt;subst a;refine aC Tryz.func67 rfl Tryz.ntmps67 (by simp) hμ hO ?_;try repeat' (first|refine PBT ?_|refine KO ?_|(refine CF 22 ?_;refine GP1 rfl (bK (by assumption) (hm.mono ML)) ?_;dsimp only[ca,na])|(refine CF 42 ?_;refine GP1 rfl (bN (by assumption) (by assumption) (hm.mono ML)) ?_;dsimp only[ca,na])|(refine CF 53 ?_;refine GP2 rfl (eU (by assumption) (by assumption) (hm.mono ML)) ?_;dsimp only[ca,na])|(refine CF 106 ?_;refine GR2 rfl (h3 _ ML) ?_;(rintro v3 μ3 ab ⟨u3,rfl,ad⟩;have o_u3:=ad.one;have H3:MLe μ μ3:=MLe.trans ML ab);dsimp only[ca,na])|refine XS1 ?_|(refine KV (b:=by((with_reducible apply oI (z:=4));exact rfl;exact rfl;decide+kernel)) (c:=?_))|refine KZ ?_|refine NB fun b=>?_|(refine KB ?_ ?_<;>intro hp))
    all_goals try(exfalso;(simp_all;done))
    all_goals(apply aX o rfl;exact(RG 1 rfl rfl rfl rfl rfl);exact rfl;exact .refl _;exact fun μ' hle u=>ad.mono hle)
  ·rw[if_neg p]at a;have ag:=eq_false_of_ne_true p;rw[show((if(false:Bool)=true then(1:Int)else 0)+ (0:Int))=0 from rfl]at a;by_cases g:(aJ E s2).k=1∧(aJ E s2).s≠⟨#[108,101,116]⟩
   ·rw[if_pos g]at a;obtain⟨aa,y⟩:=id g;obtain⟨s3,e3,m3,i3,t3,o3,-⟩:=aT hE (mv0 h) (fun e=>by have:=g.1;omega);have d:=m3.inn h;rw[e3]at a;have h4:=fun(μ9:Mem) (h9:MLe μ μ9)=>pX hE hr hw h8 d (hm.mono h9) (aJ E s).at' 0 ((aJ E s2).s) (by decide) (by omega);have m4:=(mT hE hr (aJ E s).at' 0 ((aJ E s2).s) d (by omega)).mv;generalize nL E r (aJ E s).at' 0 (aJ E s2).s s3=p9 at a h4 m4;obtain⟨x,s4⟩:=p9;dsimp only at a h4 m4;have ae:=m4.inn d;have l4:=m4.le;have t4:=m4.lt;subst a;refine aC Tryz.func67 rfl Tryz.ntmps67 (by simp) hμ hO ?_;try repeat' (first|refine PBF ?_|refine KO ?_|(refine CF 22 ?_;refine GP1 rfl (bK (by assumption) (hm.mono ML)) ?_;dsimp only[ca,na])|(refine CF 42 ?_;refine GP1 rfl (bN (by assumption) (by assumption) (hm.mono ML)) ?_;dsimp only[ca,na])|(refine CF 53 ?_;refine GP2 rfl (eU (by assumption) (by assumption) (hm.mono ML)) ?_;dsimp only[ca,na])|(refine CF 106 ?_;refine GR2 rfl (h4 _ ML) ?_;(rintro v4 μ4 j ⟨u4,rfl,l⟩;have o_u4:=l.one;have H4:MLe μ μ4:=MLe.trans ML j);dsimp only[ca,na])|refine KZ ?_|refine XS1 ?_|refine NB fun b=>?_)
    all_goals(apply aX o rfl;exact(RG 1 rfl rfl rfl rfl rfl);exact rfl;exact .refl _;exact fun μ' hle u=>l.mono hle)
   ·rw[if_neg g]at a;rw[if_neg (by decide)]at a;have h3:=fun(μ9:Mem) (h9:MLe μ μ9)=>pX hE hr hw h8 h (hm.mono h9) (aJ E s).at' 0 (empty) (by decide) (by omega);have m3:=(mT hE hr (aJ E s).at' 0 (empty) h (by omega)).mv;generalize nL E r (aJ E s).at' 0 empty s2=p9 at a h3 m3;obtain⟨x,s3⟩:=p9;dsimp only at a h3 m3;have d:=m3.inn h;have l3:=m3.le;have t3:=m3.lt;subst a;refine aC Tryz.func67 rfl Tryz.ntmps67 (by simp) hμ hO ?_;try repeat' (first|refine PBF ?_|refine KO ?_|(refine CF 22 ?_;refine GP1 rfl (bK (by assumption) (hm.mono ML)) ?_;dsimp only[ca,na])|(refine CF 42 ?_;refine GP1 rfl (bN (by assumption) (by assumption) (hm.mono ML)) ?_;dsimp only[ca,na])|(refine CF 53 ?_;refine GP2 rfl (eU (by assumption) (by assumption) (hm.mono ML)) ?_;dsimp only[ca,na])|(refine CF 106 ?_;refine GR2 rfl (h3 _ ML) ?_;(rintro v3 μ3 ab ⟨u3,rfl,ad⟩;have o_u3:=ad.one;have H3:MLe μ μ3:=MLe.trans ML ab);dsimp only[ca,na])|refine KZ ?_|refine XS1 ?_|refine NB fun b=>?_|(refine KB ?_ ?_<;>intro hp))
    all_goals try(exfalso;(simp_all;done))
    all_goals(apply aX o rfl;exact(RG 1 rfl rfl rfl rfl rfl);exact rfl;exact .refl _;exact fun μ' hle u=>ad.mono hle)
 ·obtain⟨s1,e1,m1,i1,t1,o1,-⟩:=aT hE (mv0 hi) ah;have af:=m1.inn hi;rw[e1]at a;obtain⟨s2,e2,m2,l2,t2,o2⟩:=TL hE (mv0 af) ⟨#[42]⟩;have h:=m2.inn af;rw[e2]at a;by_cases p:isR E s1 ⟨#[42]⟩=true
  ·rw[if_pos p]at a;rw[show((if(true:Bool)=true then(1:Int)else 0)+ (4:Int))=5 from rfl]at a;by_cases g:(aJ E s2).k=1∧(aJ E s2).s≠⟨#[108,101,116]⟩
   ·rw[if_pos g]at a;obtain⟨aa,y⟩:=id g;obtain⟨s3,e3,m3,i3,t3,o3,-⟩:=aT hE (mv0 h) (fun e=>by have:=g.1;omega);have d:=m3.inn h;rw[e3]at a;have h4:=fun(μ9:Mem) (h9:MLe μ μ9)=>pX hE hr hw h8 d (hm.mono h9) (aJ E s).at' 5 ((aJ E s2).s) (by decide) (by omega);have m4:=(mT hE hr (aJ E s).at' 5 ((aJ E s2).s) d (by omega)).mv;generalize nL E r (aJ E s).at' 5 (aJ E s2).s s3=p9 at a h4 m4;obtain⟨x,s4⟩:=p9;dsimp only at a h4 m4;have ae:=m4.inn d;have l4:=m4.le;have t4:=m4.lt;subst a;refine aC Tryz.func67 rfl Tryz.ntmps67 (by simp) hμ hO ?_;try repeat' (first|refine PBT ?_|refine KO ?_|(refine CF 22 ?_;refine GP1 rfl (bK (by assumption) (hm.mono ML)) ?_;dsimp only[ca,na])|(refine CF 42 ?_;refine GP1 rfl (bN (by assumption) (by assumption) (hm.mono ML)) ?_;dsimp only[ca,na])|(refine CF 53 ?_;refine GP2 rfl (eU (by assumption) (by assumption) (hm.mono ML)) ?_;dsimp only[ca,na])|(refine CF 106 ?_;refine GR2 rfl (h4 _ ML) ?_;(rintro v4 μ4 j ⟨u4,rfl,l⟩;have o_u4:=l.one;have H4:MLe μ μ4:=MLe.trans ML j);dsimp only[ca,na])|refine XS1 ?_|(refine KV (b:=by((with_reducible apply oI (z:=5));exact rfl;exact rfl;decide+kernel)) (c:=?_))|refine KZ ?_|refine NB fun b=>?_)
    all_goals(apply aX o rfl;exact(RG 1 rfl rfl rfl rfl rfl);exact rfl;exact .refl _;exact fun μ' hle u=>l.mono hle)
   ·rw[if_neg g]at a;rw[if_pos rfl]at a;obtain⟨s3,e3,m3,l3,t3,o3⟩:=kV hE (mv0 h);have d:=m3.inn h;rw[e3]at a;have h4:=fun(μ9:Mem) (h9:MLe μ μ9)=>pX hE hr hw h8 d (hm.mono h9) (aJ E s).at' 5 (empty) (by decide) (by omega);have m4:=(mT hE hr (aJ E s).at' 5 (empty) d (by omega)).mv;generalize nL E r (aJ E s).at' 5 empty s3=p9 at a h4 m4;obtain⟨x,s4⟩:=p9;dsimp only at a h4 m4;have ae:=m4.inn d;have l4:=m4.le;have t4:=m4.lt;subst a;refine aC Tryz.func67 rfl Tryz.ntmps67 (by simp) hμ hO ?_;try repeat' (first|refine PBT ?_|refine KO ?_|(refine CF 22 ?_;refine GP1 rfl (bK (by assumption) (hm.mono ML)) ?_;dsimp only[ca,na])|(refine CF 42 ?_;refine GP1 rfl (bN (by assumption) (by assumption) (hm.mono ML)) ?_;dsimp only[ca,na])|(refine CF 26 ?_;refine GU1 rfl (lY (by assumption) (by assumption) (hm.mono ML)) ?_;intro v9;dsimp only[ca,na])|(refine CF 53 ?_;refine GP2 rfl (eU (by assumption) (by assumption) (hm.mono ML)) ?_;dsimp only[ca,na])|(refine CF 106 ?_;refine GR2 rfl (h4 _ ML) ?_;(rintro v4 μ4 j ⟨u4,rfl,l⟩;have o_u4:=l.one;have H4:MLe μ μ4:=MLe.trans ML j);dsimp only[ca,na])|refine XS1 ?_|(refine KV (b:=by((with_reducible apply oI (z:=5));exact rfl;exact rfl;decide+kernel)) (c:=?_))|refine KZ ?_|refine NB fun b=>?_|(refine KB ?_ ?_<;>intro hp))
    all_goals try(exfalso;(simp_all;done))
    all_goals(apply aX o rfl;exact(RG 1 rfl rfl rfl rfl rfl);exact rfl;exact .refl _;exact fun μ' hle u=>l.mono hle)
  ·rw[if_neg p]at a;have ag:=eq_false_of_ne_true p;rw[show((if(true:Bool)=true then(1:Int)else 0)+ (0:Int))=1 from rfl]at a;by_cases g:(aJ E s2).k=1∧(aJ E s2).s≠⟨#[108,101,116]⟩
   ·rw[if_pos g]at a;obtain⟨aa,y⟩:=id g;obtain⟨s3,e3,m3,i3,t3,o3,-⟩:=aT hE (mv0 h) (fun e=>by have:=g.1;omega);have d:=m3.inn h;rw[e3]at a;have h4:=fun(μ9:Mem) (h9:MLe μ μ9)=>pX hE hr hw h8 d (hm.mono h9) (aJ E s).at' 1 ((aJ E s2).s) (by decide) (by omega);have m4:=(mT hE hr (aJ E s).at' 1 ((aJ E s2).s) d (by omega)).mv;generalize nL E r (aJ E s).at' 1 (aJ E s2).s s3=p9 at a h4 m4;obtain⟨x,s4⟩:=p9;dsimp only at a h4 m4;have ae:=m4.inn d;have l4:=m4.le;have t4:=m4.lt;subst a;refine aC Tryz.func67 rfl Tryz.ntmps67 (by simp) hμ hO ?_;try repeat' (first|refine PBF ?_|refine KO ?_|(refine CF 22 ?_;refine GP1 rfl (bK (by assumption) (hm.mono ML)) ?_;dsimp only[ca,na])|(refine CF 42 ?_;refine GP1 rfl (bN (by assumption) (by assumption) (hm.mono ML)) ?_;dsimp only[ca,na])|(refine CF 53 ?_;refine GP2 rfl (eU (by assumption) (by assumption) (hm.mono ML)) ?_;dsimp only[ca,na])|(refine CF 106 ?_;refine GR2 rfl (h4 _ ML) ?_;(rintro v4 μ4 j ⟨u4,rfl,l⟩;have o_u4:=l.one;have H4:MLe μ μ4:=MLe.trans ML j);dsimp only[ca,na])|refine KZ ?_|refine XS1 ?_|refine NB fun b=>?_)
    all_goals(apply aX o rfl;exact(RG 1 rfl rfl rfl rfl rfl);exact rfl;exact .refl _;exact fun μ' hle u=>l.mono hle)
   ·rw[if_neg g]at a;rw[if_pos rfl]at a;obtain⟨s3,e3,m3,l3,t3,o3⟩:=kV hE (mv0 h);have d:=m3.inn h;rw[e3]at a;have h4:=fun(μ9:Mem) (h9:MLe μ μ9)=>pX hE hr hw h8 d (hm.mono h9) (aJ E s).at' 1 (empty) (by decide) (by omega);have m4:=(mT hE hr (aJ E s).at' 1 (empty) d (by omega)).mv;generalize nL E r (aJ E s).at' 1 empty s3=p9 at a h4 m4;obtain⟨x,s4⟩:=p9;dsimp only at a h4 m4;have ae:=m4.inn d;have l4:=m4.le;have t4:=m4.lt;subst a;refine aC Tryz.func67 rfl Tryz.ntmps67 (by simp) hμ hO ?_;try repeat' (first|refine PBF ?_|refine KO ?_|(refine CF 22 ?_;refine GP1 rfl (bK (by assumption) (hm.mono ML)) ?_;dsimp only[ca,na])|(refine CF 42 ?_;refine GP1 rfl (bN (by assumption) (by assumption) (hm.mono ML)) ?_;dsimp only[ca,na])|(refine CF 26 ?_;refine GU1 rfl (lY (by assumption) (by assumption) (hm.mono ML)) ?_;intro v9;dsimp only[ca,na])|(refine CF 53 ?_;refine GP2 rfl (eU (by assumption) (by assumption) (hm.mono ML)) ?_;dsimp only[ca,na])|(refine CF 106 ?_;refine GR2 rfl (h4 _ ML) ?_;(rintro v4 μ4 j ⟨u4,rfl,l⟩;have o_u4:=l.one;have H4:MLe μ μ4:=MLe.trans ML j);dsimp only[ca,na])|refine KZ ?_|refine XS1 ?_|refine NB fun b=>?_|(refine KB ?_ ?_<;>intro hp))
    all_goals try(exfalso;(simp_all;done))
    all_goals(apply aX o rfl;exact(RG 1 rfl rfl rfl rfl rfl);exact rfl;exact .refl _;exact fun μ' hle u=>l.mono hle)
end
end
end Go.Proofs.YtknieidhopbngaaGreat
