/- The parser's facts, finished: statements; the recursion; a program. -/
import Derived.Test.YtknieidhopbngaaGreatQak
set_option maxRecDepth 20000
set_option maxHeartbeats 2000000
namespace Go.Proofs.YtknieidhopbngaaGreat
section
open Go.RowKit Go.Vcg
variable{src:ByteArray}
theorem op7{a:Int}(ha:Pl src a):Gc src 73 (nd 7 a [])∧Gc src 77 (nd 7 a [])∧Gc src 89 (nd 7 a [])∧Gc src 67 (nd 7 a [])∧Gc src 71 (nd 7 a [])∧Gc src 83 (nd 7 a []):=by
 have h:=g7 ha;refine⟨⟨h,?_⟩,⟨h,?_⟩,⟨h,?_⟩,⟨h,?_⟩,⟨h,?_⟩,h,xC rfl⟩
 ·rw[aFd];rfl
 ·rw[aG1];simp[T.op]
 ·rw[aGz];rfl
 ·rw[aG6];rfl
 ·rw[aG4];simp[T.op]
theorem op6{t:T}(h:Gt src t false∧t.op=6):Gc src 83 t∧Gc src 66 t∧Gc src 89 t:=by
 refine⟨⟨h.1,?_⟩,⟨h.1,?_⟩,h.1,?_⟩
 ·rw[aFc];unfold vG;simp[h.2]
 ·rw[aG7,h.2];rfl
 ·rw[aGz,h.2];rfl
theorem op2{t:T}(h:t.op=2):isT 73 t=true:=by rw[aFd,h];rfl
section
variable{E:TkE}{s:RdS}{n:Nat}{r:RdR}(hE:TOk E src)
include hE
variable(hr:nB E src n r)
include hr
theorem qH(hi:In E src s)(hn:8*(E.ts.length-s.i)+5≤n):PA E src s (QX src 69 (-80) s) (nJ E r s):=by
 have hl:=hi.lt;unfold nJ;obtain⟨s1,e1,m1,l1,t1,o1⟩:=bW hE (mv0 hi) ⟨#[40]⟩;rw[e1];refine(iS hE hr true (m1.inn hi) (by omega)).bd m1 fun k s2 m2 n2 l2 t2 o2 q2=>?_;obtain⟨s3,e3,m3,l3,t3,o3⟩:=bW hE m2 ⟨#[41]⟩;rw[e3];refine .ret m3 fun e=>?_;have q3:=o3 e;obtain⟨w,g⟩:=q2 q3.1;have:=o1 (o2 q3.1);exact⟨by omega,g⟩
theorem NL(hi:In E src s)(hk:(aJ E s).k≠0)(hn:8*(E.ts.length-s.i)+5≤n):PA E src s (QX src 83 (-10) s) (pB E r s):=by
 have hl:=hi.lt;have d:=cQ hE s;unfold pB;obtain⟨s1,e1,m1,i1,t1,o1,-⟩:=aT hE (mv0 hi) hk;rw[e1];refine(qH hE hr (m1.inn hi) (by omega)).bd m1 fun c s2 m2 n2 l2 t2 o2 q2=>?_;refine(hr.stm false s2 (m2.inn hi) (by omega)).bd m2 fun a s3 m3 n3 l3 t3 o3 q3=>?_;split
 ·rename_i h;obtain⟨s4,e4,m4,i4,t4,o4,-⟩:=aT hE m3 (eC h);rw[e4];refine(hr.stm false s4 (m4.inn hi) (by omega)).bd m4 fun b s5 m5 n5 l5 t5 o5 q5=>.ret m5 fun e=>?_;obtain⟨w5,g5⟩:=q5 e;obtain⟨w3,g3⟩:=q3 (by have:=o5 e;omega);obtain⟨w2,g2⟩:=q2 (o3 (by have:=o5 e;omega));refine⟨?_,g9b d g2 g3 g5⟩;rw[WL _ _ _ _ _ _ _ _ (by decide)];omega
 ·refine .ret m3 fun e=>?_;obtain⟨w3,g3⟩:=q3 e;obtain⟨w2,g2⟩:=q2 (o3 e);refine⟨?_,g9a d g2 g3⟩;rw[uT _ _ _ _ _ _ _ (by decide)];omega
theorem aHl(hi:In E src s)(hk:(aJ E s).k≠0)(hn:8*(E.ts.length-s.i)+5≤n):PA E src s (QX src 83 (-10) s) (doM E r s):=by
 have hl:=hi.lt;have b:=cQ hE s;unfold doM;obtain⟨s1,e1,m1,i1,t1,o1,-⟩:=aT hE (mv0 hi) hk;rw[e1];refine(hr.stm false s1 (m1.inn hi) (by omega)).bd m1 fun a s2 m2 n2 l2 t2 o2 q2=>?_;have h3:∃s3,bJ E (if cP E s2 ⟨#[119,104,105,108,101]⟩=true then s2 else iE E s2)=s3∧Mv E (src.size:Int) s s3∧s2.i≤s3.i∧s3.i<E.ts.length∧(s3.e=0→s2.e=0):=by
  refine⟨_,rfl,?_⟩;split
  ·exact⟨m2.next,CQ,m2.next.lt,fun e=>by rw[zX]at e;exact e⟩
  ·have hf:=m2.fail hE.toEOk;have hle:=((mv0 (m2.inn hi)).fail hE.toEOk).le;have d:=CQ (E:=E) (s:=iE E s2);exact⟨hf.next,by omega,hf.next.lt,fun e=>by rw[zX]at e;exact absurd e AE⟩
 obtain⟨s3,e3,m3,l3,t3,o3⟩:=h3;rw[e3];refine(qH hE hr (m3.inn hi) (by omega)).bd m3 fun c s4 m4 n4 l4 t4 o4 q4=>.ret m4.eat fun e=>?_;have hle:s4.i≤(cH E ⟨#[59]⟩ s4).i:=(mv0 (m4.inn hi)).eat.le;have e' :=(mv0 (m4.inn hi)).eat.ok e;obtain⟨w4,g4⟩:=q4 e';obtain⟨w2,g2⟩:=q2 (o3 (o4 e'));refine⟨?_,g14 b g4 g2⟩;rw[uT _ _ _ _ _ _ _ (by decide)];omega
theorem EF(w:ByteArray)(hi:In E src s)(hk:(aJ E s).k≠0)(hn:8*(E.ts.length-s.i)+5≤n):PA E src s (QX src 83 (-10) s) (sX E r w s):=by
 have hl:=hi.lt;have a:=cQ hE s;unfold sX;dsimp only;obtain⟨s1,e1,m1,i1,t1,o1,-⟩:=aT hE (mv0 hi) hk;rw[e1];by_cases hw:w=⟨#[99,111,110,116,105,110,117,101]⟩∨w=⟨#[98,114,101,97,107]⟩
 ·rw[if_pos hw];have ho:∃o:Int,(if w=⟨#[99,111,110,116,105,110,117,101]⟩then(16:Int)else 15)=o∧(o=15∨o=16):=⟨_,rfl,by split;exact .inr rfl;exact .inl rfl⟩;obtain⟨o,eo,ho⟩:=ho;rw[eo];split
  ·rename_i h;obtain⟨s2,e2,m2,i2,t2,o2,-⟩:=aT hE m1 (by omega);rw[e2];obtain⟨s3,e3,m3,l3,t3,o3⟩:=kW hE m2;rw[e3];refine .ret m3 fun e=>⟨?_,g15 a ho (oB hE s1) (.inr (hE.fm _ (.inl h.1)))⟩;rw[mS _ _ _ _ _ (by omega)];omega
  ·obtain⟨s3,e3,m3,l3,t3,o3⟩:=kW hE m1;rw[e3];refine .ret m3 fun e=>⟨?_,g15 a ho (by decide) (.inl rfl)⟩;rw[mS _ _ _ _ _ (by omega)];omega
 ·rw[if_neg hw];by_cases b:w=⟨#[114,101,116,117,114,110]⟩
  ·rw[if_pos b];split
   ·refine(iS hE hr true (m1.inn hi) (by omega)).bd m1 fun k s2 m2 n2 l2 t2 o2 q2=>?_;obtain⟨s3,e3,m3,l3,t3,o3⟩:=kW hE m2;rw[e3];refine .ret m3 fun e=>?_;obtain⟨w2,g2⟩:=q2 (o3 e);refine⟨?_,aIi a g2⟩;rw[sA _ _ _ _ _ _ (by decide)];omega
   ·obtain⟨s3,e3,m3,l3,t3,o3⟩:=kW hE m1;rw[e3];refine .ret m3 fun e=>⟨?_,aIj a⟩;rw[mS _ _ _ _ _ (by decide)];omega
  ·rw[if_neg b];have h2:∃s2,(if(aJ E s1).line=true then iE E s1 else s1)=s2∧Mv E (src.size:Int) s s2∧s1.i≤s2.i∧s2.i<E.ts.length:=by
    refine⟨_,rfl,?_⟩;split
    ·exact⟨m1.fail hE.toEOk,((mv0 (m1.inn hi)).fail hE.toEOk).le,(m1.fail hE.toEOk).lt⟩
    ·exact⟨m1,aP _,t1⟩
   obtain⟨s2,e2,m2,l2,t2⟩:=h2;rw[e2];refine(iS hE hr true (m2.inn hi) (by omega)).bd m2 fun k s3 m3 n3 l3 t3 o3 q3=>?_;obtain⟨s4,e4,m4,l4,t4,o4⟩:=kW hE m3;rw[e4];refine .ret m4 fun e=>?_;obtain⟨w3,g3⟩:=q3 (o4 e);refine⟨?_,g18 a g3⟩;rw[sA _ _ _ _ _ _ (by decide)];omega
theorem FI:∀(f:Nat) (o:Bool) (acc:List T) (s:RdS),In E src s→(s.e=0→8*(E.ts.length-s.i)+5≤n)→(s.e=0→∃b l,acc=b::l∧Gc src 69 b∧∀t∈l,Gc src 75 t)→
 PA E src s (fun x s' =>(wtL x.1:Int)+30*s.i≤30*s'.i+wtL acc∧x.2=true∧∃b l,x.1=b::l∧Gc src 69 b∧∀t∈l,Gc src 75 t) (sH E r f o acc s)
 |0,o,acc,s,hi,hn,ha=>.ret (mv0 hi) fun e=>⟨by dsimp only;omega,rfl,ha e⟩
 | f + 1,o,acc,s,hi,hn,ha=>by
   have hl:=hi.lt;have a:=cQ hE s;rw[sH];split
   ·rename_i h;have d:=hn h.1;obtain⟨b,l,rfl,gb,gl⟩:=ha h.1;split
    ·rename_i h1;obtain⟨s1,e1,m1,i1,t1,o1,-⟩:=aT hE (mv0 hi) (eC h1);rw[e1];refine(iS hE hr true (m1.inn hi) (by omega)).bd m1 fun c s2 m2 n2 l2 t2 o2 q2=>?_;obtain⟨s3,e3,m3,l3,t3,o3⟩:=bW hE m2 ⟨#[58]⟩;rw[e3];refine(vO hE hr true (m3.inn hi) (fun e=>by omega)).bd m3 fun x s4 m4 n4 l4 t4 o4 q4=>?_;have h5:=FI f o ((b::l)++[nd 22 (aJ E s).at' (c::x.1)]) s4 (m4.inn hi) (fun e=>by omega) fun e=>by obtain⟨w4,g4⟩:=q4 e;obtain⟨w2,g2⟩:=q2 (o3 (o4 e)).1;exact⟨b,l++[nd 22 (aJ E s).at' (c::x.1)],rfl,gb,k3 gl (k1 (aIh a g2 g4))⟩
     refine⟨m4.trans h5.mv,fun e=>?_⟩;obtain⟨w5,g5⟩:=h5.ok e;have e4:=h5.mv.ok e;obtain⟨w4,-⟩:=q4 e4;have q3:=o3 (o4 e4);obtain⟨w2,-⟩:=q2 q3.1;rw[mH,xA _ _ _ _ _ _ (by decide),show wtL (c::x.1)=wtT c+wtL x.1 from cX c x.1]at w5;exact⟨by omega,g5⟩
    ·split
     ·rename_i h1;obtain⟨s1,e1,m1,i1,t1,o1,-⟩:=aT hE (mv0 hi) (eC h1.1);rw[e1];obtain⟨s3,e3,m3,l3,t3,o3⟩:=bW hE m1 ⟨#[58]⟩;rw[e3];refine(vO hE hr true (m3.inn hi) (fun e=>by omega)).bd m3 fun x s4 m4 n4 l4 t4 o4 q4=>?_;have h5:=FI f true ((b::l)++[T.mk 22 (aJ E s).at' 1 0 empty x.1]) s4 (m4.inn hi) (fun e=>by omega) fun e=>by obtain⟨w4,g4⟩:=q4 e;exact⟨b,l++[T.mk 22 (aJ E s).at' 1 0 empty x.1],rfl,gb,k3 gl (k1 (aIg a g4))⟩
      refine⟨m4.trans h5.mv,fun e=>?_⟩;obtain⟨w5,g5⟩:=h5.ok e;have e4:=h5.mv.ok e;obtain⟨w4,-⟩:=q4 e4;have q3:=o3 (o4 e4);rw[mH,xA _ _ _ _ _ _ (by decide)]at w5;exact⟨by omega,g5⟩
     ·exact .failed hE (mv0 hi)
   ·exact .ret (mv0 hi) fun e=>⟨by dsimp only;omega,rfl,ha e⟩
theorem TU(hi:In E src s)(hk:(aJ E s).k≠0)(hn:8*(E.ts.length-s.i)+5≤n):PA E src s (QX src 83 (-10) s) (wC E r s):=by
 have hl:=hi.lt;have a:=cQ hE s;unfold wC;obtain⟨s1,e1,m1,i1,t1,o1,-⟩:=aT hE (mv0 hi) hk;rw[e1];refine(qH hE hr (m1.inn hi) (by omega)).bd m1 fun b s2 m2 n2 l2 t2 o2 q2=>?_;obtain⟨s3,e3,m3,l3,t3,o3⟩:=bW hE m2 ⟨#[123]⟩;rw[e3];refine(FI hE hr _ false [b] s3 (m3.inn hi) (fun e=>by omega) fun e=>⟨b,[],rfl,(q2 (o3 e).1).2,k0⟩).bd m3 fun x s4 m4 n4 l4 t4 o4 q4=>?_;have h5:Mv E (src.size:Int) s (if x.2=true then eP E ⟨#[125]⟩ s4 else s4)∧s4.i≤(if x.2=true then eP E ⟨#[125]⟩ s4 else s4).i∧((if x.2=true then eP E ⟨#[125]⟩ s4 else s4).e=0→s4.e=0):=by
  split
  ·obtain⟨s5,e5,m5,l5,t5,o5⟩:=bW hE m4 ⟨#[125]⟩;rw[e5];exact⟨m5,l5,fun e=>(o5 e).1⟩
  ·exact⟨m4,aP _,id⟩
 refine .ret h5.1 fun e=>?_;have e4:=h5.2.2 e;obtain⟨w4,-,b',l,e5,gb,gl⟩:=q4 e4;have q3:=o3 (o4 e4);obtain⟨w2,g2⟩:=q2 q3.1;have hle:=h5.2.1;refine⟨?_,by rw[e5];exact g21 a gb gl⟩;rw[xA _ _ _ _ _ _ (by decide)];rw[show wtL [b]=wtT b+0 from cX b []]at w4;omega
theorem aC9(hi:In E src s)(hk:(aJ E s).k≠0)(hn:8*(E.ts.length-s.i)+5≤n):PA E src s (QX src 83 (-10) s) (FW E r s):=by
 have hl:=hi.lt;have c:=cQ hE s;unfold FW;obtain⟨s1,e1,m1,i1,t1,o1,-⟩:=aT hE (mv0 hi) hk
 rw[e1];refine(iT hE hr (m1.inn hi) (by omega)).bd m1 fun b s2 m2 n2 l2 t2 o2 q2=>?_;have h3:PA E src s2 (fun x s' =>(wtT x.1:Int)+30*s2.i≤30*s'.i+1∧wtT x.2=1∧Gc src 67 x.1∧Gc src 89 x.2) (if cP E s2 ⟨#[99,97,116,99,104]⟩=true then
       let s2' :=bJ E s2
       bd (if isR E s2' ⟨#[40]⟩=true then bd (r.tar (bJ E s2')) fun t s3=>(t,eP E ⟨#[41]⟩ s3)else(kI E s2',s2')) fun t s3=>bd (hH E r s3) fun k s4=>((nd 20 (aJ E s2).at' [t,k.1],kI E s4),s4)
  else((kI E s2,kI E s2),s2)):=by
  split
  ·rename_i h;dsimp only;obtain⟨s3,e3,m3,i3,t3,o3,-⟩:=aT hE (mv0 (m2.inn hi)) (eC h);rw[e3];have a:=m3.inn (m2.inn hi);have h4:PA E src s3 (fun t s' =>(wtT t:Int)+30*s3.i≤30*s'.i+1∧Gc src 71 t) (if isR E s3 ⟨#[40]⟩=true then bd (r.tar (bJ E s3)) fun t s3=>(t,eP E ⟨#[41]⟩ s3)else(kI E s3,s3)):=by
    split
    ·rename_i h4;obtain⟨s4,e4,m4,i4,t4,o4,-⟩:=aT hE (mv0 a) (cY h4);rw[e4];refine(hr.tar s4 (m4.inn a) (by omega)).bd m4 fun t s5 m5 n5 l5 t5 o5 q5=>?_;obtain⟨s6,e6,m6,l6,t6,o6⟩:=bW hE m5 ⟨#[41]⟩;rw[e6];refine .ret m6 fun e=>?_;have q6:=o6 e;obtain⟨w5,g5⟩:=q5 q6.1;exact⟨by omega,g5.1,aI4 g5.2⟩
    ·exact .ret (mv0 a) fun e=>⟨by rw[show wtT (kI E s3)=1 from mS _ _ _ _ _ (by decide)];omega,(op7 (cQ hE s3)).2.2.2.2.1⟩
   refine h4.bd m3 fun t s4 m4 n4 l4 t4 o4 q4=>?_;have hle:=m4.le;refine(iT hE hr (m4.inn (m2.inn hi)) (by omega)).bd m4 fun k s5 m5 n5 l5 t5 o5 q5=>.ret m5 fun e=>?_;obtain⟨w5,g5⟩:=q5 e;obtain⟨w4,g4⟩:=q4 (o5 e);refine⟨?_,mS _ _ _ _ _ (by decide),g20 (cQ hE s2) g4 (op6 g5).2.1,(op7 (cQ hE s5)).2.2.1⟩;rw[uT _ _ _ _ _ _ _ (by decide)];omega
  ·exact .ret (mv0 (m2.inn hi)) fun e=>⟨by rw[show wtT (kI E s2)=1 from mS _ _ _ _ _ (by decide)];omega,mS _ _ _ _ _ (by decide),(op7 (cQ hE s2)).2.2.2.1,(op7 (cQ hE s2)).2.2.1⟩
 refine h3.bd m2 fun x s5 m5 n5 l5 t5 o5 q5=>?_;split
 ·rename_i h;obtain⟨s6,e6,m6,i6,t6,o6,-⟩:=aT hE m5 (eC h);rw[e6];refine(iT hE hr (m6.inn hi) (by omega)).bd m6 fun l s7 m7 n7 l7 t7 o7 q7=>.ret m7 fun e=>?_;obtain⟨w7,g7⟩:=q7 e;have e5:s5.e=0:=by have:=o7 e;omega
  obtain⟨w5,-,g5,-⟩:=q5 e5;obtain⟨w2,g2⟩:=q2 (o5 e5);refine⟨?_,g19 c (op6 g2).2.1 g5 (op6 g7).2.2 (.inr (by rw[g7.2];decide))⟩;rw[WL _ _ _ _ _ _ _ _ (by decide)];omega
 ·by_cases d:x.1.op=7
  ·rw[if_pos d];exact .failed hE m5
  ·rw[if_neg d];refine .ret m5 fun e=>?_;obtain⟨w5,w5',g5,g5'⟩:=q5 e;obtain⟨w2,g2⟩:=q2 (o5 e);refine⟨?_,g19 c (op6 g2).2.1 g5 g5' (.inl d)⟩;rw[WL _ _ _ _ _ _ _ _ (by decide)];omega
theorem yE(b hd:Bool)(hi:In E src s)(hn:8*(E.ts.length-s.i)+5≤n):PA E src s (QX src 68 (-15) s) (tB E r b hd s):=by
 have hl:=hi.lt;unfold tB;refine(hr.tar s hi hn).bd (mv0 hi) fun t s1 m1 n1 l1 t1 o1 q1=>?_;split
 ·rename_i h;obtain⟨s2,e2,m2,i2,t2,o2,-⟩:=aT hE m1 (cY h);rw[e2];refine(uK hr b (m2.inn hi) (by omega)).bd m2 fun v s3 m3 n3 l3 t3 o3 q3=>.ret m3 fun e=>?_;obtain⟨w3,g3⟩:=q3 e;obtain⟨w1,g1⟩:=q1 (by have:=o3 e;omega);refine⟨?_,g3b g1.1.at' g1 g3⟩;rw[uT _ _ _ _ _ _ _ (by decide)];omega
 ·split
  ·exact .failed hE m1
  ·refine .ret m1 fun e=>?_;obtain⟨w1,g1⟩:=q1 e;refine⟨?_,g3a g1.1.at' g1⟩;rw[sA _ _ _ _ _ _ (by decide)];omega
theorem RD(b:Bool):∀(f:Nat) (acc:List T) (s:RdS),In E src s→8*(E.ts.length-s.i)+5≤n→E.ts.length-s.i≤f→(s.e=0→∀t∈acc,Gc src 68 t)→
 PA E src s (fun l s' =>(wtL l:Int)+30*s.i≤30*s'.i+wtL acc∧(∀t∈l,Gc src 68 t)∧l≠[]) (sN E r b f acc s)
 |0,acc,s,hi,hn,hf,ha=>by have:=hi.lt;omega
 | f+1,acc,s,hi,hn,hf,ha=>by
   have hl:=hi.lt;rw[sN];refine(yE hE hr b _ hi hn).bd (mv0 hi) fun d s1 m1 n1 l1 t1 o1 q1=>?_;split
   ·rename_i h;obtain⟨w1,g1⟩:=q1 h.1;obtain⟨s2,e2,m2,i2,t2,o2,-⟩:=aT hE m1 (cY h.2);rw[e2];have h3:=RD b f (acc++[d]) s2 (m2.inn hi) (by omega) (by omega) fun e=>k3 (ha (o1 h.1)) (k1 g1);refine⟨m2.trans h3.mv,fun e=>?_⟩;obtain⟨w3,g3⟩:=h3.ok e;rw[mH]at w3;exact⟨by omega,g3⟩
   ·refine .ret m1 fun e=>?_;obtain⟨w1,g1⟩:=q1 e;refine⟨?_,k3 (ha (o1 e)) (k1 g1),by simp⟩;rw[mH];omega
theorem zL(b:Bool)(hi:In E src s)(hk:(aJ E s).k≠0)(hn:8*(E.ts.length-s.i)≤n+3):PA E src s (fun t s' =>QX src 83 (-10) s t s' ∧t.op=2) (uM E r b s):=by
 have hl:=hi.lt;have c:=cQ hE s;unfold uM;dsimp only;obtain⟨s1,e1,m1,i1,t1,o1,-⟩:=aT hE (mv0 hi) hk;rw[e1];refine(RD hE hr b _ [] s1 (m1.inn hi) (by omega) (by omega) fun _=>k0).bd m1 fun l s2 m2 n2 l2 t2 o2 q2=>.ret m2 fun e=>?_;obtain⟨w,g,a⟩:=q2 e;rw[show wtL ([]:List T)=0 from rfl]at w;refine⟨⟨?_,?_⟩,rfl⟩
 ·rw[xA _ _ _ _ _ _ (by decide)];omega
 ·cases l with
  |nil=>exact absurd rfl a
  | cons d l=>
    exact g2 c (by split;decide;split<;>decide) (g d aA) fun k hk=>g k (aS hk)
theorem wU(x:ByteArray)(hi:In E src s)(hn:8*(E.ts.length-s.i)+5≤n):PA E src s (fun t s' =>(wtT t:Int)+30*s.i≤30*s'.i+1∧Gc src 77 t) (pS E r x s):=by
 unfold pS;split
 ·exact .ret (mv0 hi) fun e=>⟨by rw[show wtT (kI E s)=1 from mS _ _ _ _ _ (by decide)];omega,(op7 (cQ hE s)).2.1⟩
 ·exact(iS hE hr true hi hn).imp fun t s' h=>⟨by have:=h.1;omega,h.2.1,aI6 h.2.2⟩
theorem TD(hi:In E src s)(hn:8*(E.ts.length-s.i)+5≤n):PA E src s (fun x s' =>(wtT x.1:Int)+30*s.i≤30*s'.i+1∧Gt src x.1 false∧(x.2=true→isT 76 x.1=true)∧((x.2&&kJ E s')=false→isT 73 x.1=true)) (firstM E r s):=by
 have hl:=hi.lt;unfold firstM;split
 ·have l:=op7 (cQ hE s);exact .ret (mv0 hi) fun e=>⟨by dsimp only;rw[show wtT (kI E s)=1 from mS _ _ _ _ _ (by decide)];omega,l.1.1,fun h=>(by cases h),fun _=>l.1.2⟩
 split
 ·rename_i h;have hk:(aJ E s).k≠0:=by rw[aY,aY]at h;rcases h with(h|h)|h<;>exact eC h
  refine(zL hE hr false hi hk (by omega)).bd (mv0 hi) fun t s1 m1 n1 l1 t1 o1 q1=>.ret m1 fun e=>?_;obtain⟨⟨w,g⟩,h2⟩:=q1 e;refine⟨by dsimp only;omega,g.1,fun b=>?_,fun _=>op2 h2⟩;rw[aM,decide_eq_true_eq,decide_eq_true_eq]at b;dsimp only;rw[aG2];unfold yX BR;obtain⟨d,hd⟩:=List.length_eq_one_iff.1 b.1;have c:=b.2;rw[hd]at c⊢;rw[h2];simp[show d.kids.length=1 from c]
 ·refine(hr.asg false 2 s hi (fun _=>rfl) hn).bd (mv0 hi) fun t s1 m1 n1 l1 t1 o1 q1=>?_;split
  ·rename_i h;obtain⟨w1,g1⟩:=q1 h.1;have hp:Pl src t.at' :=by
    rcases g1 with g|⟨g,-⟩
    ·exact g.1.at'
    ·exact g.2.2.1
   dsimp only;by_cases j:t.op=46
   ·rw[if_pos j];have hb:(iF E t.at' 24 s1).e≠0:=nD (by decide);have hm:=m1.yI hE.toEOk (a:=t.at') (e:=24) fun _=>hp;unfold iY;rw[if_pos hb];exact .bad hm hb
   ·rw[if_neg j];have hg:eW t=true→Gt src t false:=fun ht=>by
     rcases g1 with g|⟨g,-⟩
     ·exact g.1
     ·have:=IJ ht;have:=g.2.1;omega
    have hc:Cov src t∨gJ t=false∧t.op≠37∧t.op≠38:=by
     rcases g1 with g|⟨g,-⟩
     ·exact .inl g.cov
     ·exact .inl g.1
    refine(HK hE (mv0 (m1.inn hi)) h.1 hp hg hc).bd m1 fun u s2 m2 n2 l2 t2 o2 q2=>.ret m2 fun e=>?_;obtain⟨rfl,gu,wu⟩:=q2 e;refine⟨by dsimp only;omega,gu.1,fun _=>aI3 gu.2,fun b=>?_⟩;rw[h.2]at b;cases b
  ·rename_i h;refine(FG hE hr false t (m1.inn hi) (by omega) fun e=>?_).bd m1 fun u s2 m2 n2 l2 t2 o2 q2=>.ret m2 fun e=>?_
   ·rcases(q1 e).2 with g|⟨-,g|⟨-,g⟩⟩
    ·exact g
    ·cases g
    ·exact absurd ⟨e,g⟩ h
   ·obtain⟨w2,g2⟩:=q2 e;have w1:=(q1 (o2 e)).1;refine⟨?_,g8 g2.1.at' g2,fun b=>(by cases b),fun _=>?_⟩
    ·dsimp only;rw[sA _ _ _ _ _ _ (by decide)];omega
    ·show isT 73 (nd 8 u.at' [u])=true
     rw[aFd];rfl
theorem YT(hi:In E src s)(hk:(aJ E s).k≠0)(hn:8*(E.ts.length-s.i)+5≤n):PA E src s (QX src 83 (-10) s) (xK E r s):=by
 have hl:=hi.lt;have a:=cQ hE s;unfold xK;obtain⟨s1,e1,m1,i1,t1,o1,-⟩:=aT hE (mv0 hi) hk;rw[e1];obtain⟨s2,e2,m2,l2,t2,o2⟩:=bW hE m1 ⟨#[40]⟩;rw[e2];refine(TD hE hr (m2.inn hi) (by omega)).bd m2 fun x s3 m3 n3 l3 t3 o3 q3=>?_;split
 ·rename_i h;rw[aM]at h;have b:=PZ h.2;obtain⟨s4,e4,m4,i4,t4,o4,-⟩:=aT hE m3 b;rw[e4];have h5:PA E src s4 (QX src 69 (-20) s4) (if mZ E s3 ⟨#[111,102]⟩=true then r.asg true 0 s4 else gN E r true s4):=by
   split
   ·exact uK hr true (m4.inn hi) (by omega)
   ·exact iS hE hr true (m4.inn hi) (by omega)
  refine h5.bd m4 fun v s5 m5 n5 l5 t5 o5 q5=>?_;obtain⟨s6,e6,m6,l6,t6,o6⟩:=bW hE m5 ⟨#[41]⟩;rw[e6];refine(hr.stm false s6 (m6.inn hi) (by omega)).bd m6 fun k s7 m7 n7 l7 t7 o7 q7=>.ret m7 fun e=>?_;obtain⟨w7,g7⟩:=q7 e;have q6:=o6 (o7 e);obtain⟨w5,g5⟩:=q5 q6.1;obtain⟨w3,g3,g3',-⟩:=q3 (by have:=o5 q6.1;omega);have q2:=o2 (o3 (by have:=o5 q6.1;omega));have ho:∃o:Int,(if mZ E s3 ⟨#[111,102]⟩=true then(12:Int)else 11)=o∧(o=11∨o=12):=⟨_,rfl,by split;exact .inr rfl;exact .inl rfl⟩;obtain⟨o,eo,ho⟩:=ho;rw[eo];refine⟨?_,g11 a ho ⟨g3,g3' h.1⟩ g5 g7⟩;rw[WL _ _ _ _ _ _ _ _ (by omega)];omega
 ·rename_i h;obtain⟨s4,e4,m4,l4,t4,o4⟩:=bW hE m3 ⟨#[59]⟩;rw[e4];refine(wU hE hr _ (m4.inn hi) (by clear o2 q3 o3 o4;omega)).bd m4 fun c s5 m5 n5 l5 t5 o5 q5=>?_;obtain⟨s6,e6,m6,l6,t6,o6⟩:=bW hE m5 ⟨#[59]⟩;rw[e6];refine(wU hE hr _ (m6.inn hi) (by clear o2 q3 o3 o4 q5 o5 o6;omega)).bd m6 fun d s7 m7 n7 l7 t7 o7 q7=>?_;obtain⟨s8,e8,m8,l8,t8,o8⟩:=bW hE m7 ⟨#[41]⟩;rw[e8];refine(hr.stm false s8 (m8.inn hi) (by clear o2 q3 o3 o4 q5 o5 o6 q7 o7 o8;omega)).bd m8 fun k s9 m9 n9 l9 t9 o9 q9=>.ret m9 fun e=>?_;obtain⟨w9,g9⟩:=q9 e;have q8:=o8 (o9 e);obtain⟨w7,g7⟩:=q7 q8.1;have q6:=o6 (o7 q8.1);obtain⟨w5,g5⟩:=q5 q6.1;have q4:=o4 (o5 q6.1);obtain⟨w3,g3,-,g3'⟩:=q3 q4.1;have q2:=o2 (o3 q4.1);refine⟨?_,g10 a ⟨g3,g3' (Bool.eq_false_iff.2 h)⟩ g5 g7 g9⟩;rw[kE,if_neg (by decide),cX,cX,cX,cX,jL];clear o2 o3 o4 o5 o6 o7 o8 o9;omega
theorem aAb(hi:In E src s)(hn:8*(E.ts.length-s.i)+5≤n):PA E src s (QX src 83 (-10) s) (xM E r s):=by
 unfold xM;refine(iS hE hr true hi hn).bd (mv0 hi) fun k s2 m2 n2 l2 t2 o2 q2=>?_;obtain⟨s3,e3,m3,l3,t3,o3⟩:=kW hE m2;rw[e3];refine .ret m3 fun e=>?_;obtain⟨w2,g2⟩:=q2 (o3 e);refine⟨?_,g8 g2.1.at' g2,xC rfl⟩;rw[sA _ _ _ _ _ _ (by decide)];omega
theorem KF(w:ByteArray)(many:Bool)(hi:In E src s)(hk:(aJ E s).k≠0)(hn:8*(E.ts.length-s.i)+5≤n):
 PA E src s (fun x s' =>(x.2=true→QX src 83 (-10) s x.1 s')∧(x.2=false→s' =s)) (oW E r w many s):=by
 have hl:=hi.lt;have lift:∀{p:T×RdS},PA E src s (QX src 83 (-10) s) p→PA E src s (fun x s' =>(x.2=true→QX src 83 (-10) s x.1 s')∧(x.2=false→s' =s)) (bd p fun n s1=>((n,true),s1)):=fun{p} h=>
  h.bd (mv0 hi) fun t s1 m1 n1 l1 t1 o1 q1=>.ret m1 fun e=>⟨fun _=>q1 e,fun h=>(by cases h)⟩
 unfold oW;by_cases h1:w=⟨#[118,97,114]⟩∨w=⟨#[99,111,110,115,116]⟩∨w=⟨#[108,101,116]⟩
 ·rw[if_pos h1];split
  ·exact .failed hE (mv0 hi)
  ·refine(zL hE hr true hi hk (by omega)).bd (mv0 hi) fun t s1 m1 n1 l1 t1 o1 q1=>?_;obtain⟨s2,e2,m2,l2,t2,o2⟩:=kW hE m1;rw[e2];refine .ret m2 fun e=>⟨fun _=>?_,fun h=>(by cases h)⟩;obtain⟨⟨w,g⟩,-⟩:=q1 (o2 e);exact⟨by dsimp only;omega,g⟩
 rw[if_neg h1];by_cases h2:w=⟨#[102,117,110,99,116,105,111,110]⟩
 ·rw[if_pos h2];split
  ·exact lift ((uB hE hr true hi hk (by omega)).imp fun t s' h=>⟨by have:=h.1;omega,h.2.1 rfl⟩)
  ·exact .failed hE (mv0 hi)
 rw[if_neg h2];by_cases h3:w=⟨#[105,102]⟩
 ·rw[if_pos h3];exact lift (NL hE hr hi hk hn)
 rw[if_neg h3];by_cases h4:w=⟨#[119,104,105,108,101]⟩
 ·rw[if_pos h4];obtain⟨s1,e1,m1,i1,t1,o1,-⟩:=aT hE (mv0 hi) hk;rw[e1];refine(qH hE hr (m1.inn hi) (by omega)).bd m1 fun c s2 m2 n2 l2 t2 o2 q2=>?_;refine(hr.stm false s2 (m2.inn hi) (by omega)).bd m2 fun k s3 m3 n3 l3 t3 o3 q3=>.ret m3 fun e=>⟨fun _=>?_,fun h=>(by cases h)⟩;obtain⟨w3,g3⟩:=q3 e;obtain⟨w2,g2⟩:=q2 (o3 e);refine⟨?_,g13 (cQ hE s) g2 g3⟩;dsimp only;rw[uT _ _ _ _ _ _ _ (by decide)];omega
 rw[if_neg h4];by_cases h5:w=⟨#[100,111]⟩
 ·rw[if_pos h5];exact lift (aHl hE hr hi hk hn)
 rw[if_neg h5];by_cases h6:w=⟨#[102,111,114]⟩
 ·rw[if_pos h6];exact lift (YT hE hr hi hk hn)
 rw[if_neg h6];by_cases b:w=⟨#[99,111,110,116,105,110,117,101]⟩∨w=⟨#[98,114,101,97,107]⟩∨w=⟨#[114,101,116,117,114,110]⟩∨w=⟨#[116,104,114,111,119]⟩
 ·rw[if_pos b];exact lift (EF hE hr w hi hk hn)
 rw[if_neg b];by_cases h8:w=⟨#[115,119,105,116,99,104]⟩
 ·rw[if_pos h8];exact lift (TU hE hr hi hk hn)
 rw[if_neg h8];by_cases a:w=⟨#[116,114,121]⟩
 ·rw[if_pos a];exact lift (aC9 hE hr hi hk hn)
 rw[if_neg a];exact .ret (mv0 hi) fun e=>⟨fun h=>(by cases h),fun _=>rfl⟩
theorem aD7(many:Bool)(hi:In E src s)(hn:8*(E.ts.length-s.i)+5≤n):PA E src s (QX src 83 (-10) s) (xE E r many s):=by
 have hl:=hi.lt;have a:=cQ hE s;unfold xE;dsimp only;by_cases h1:isR E s ⟨#[123]⟩=true
 ·rw[if_pos h1];refine(iT hE hr hi (by omega)).bd (mv0 hi) fun x s1 m1 n1 l1 t1 o1 q1=>.ret m1 fun e=>?_;obtain⟨w,g⟩:=q1 e;exact⟨by omega,(op6 g).1⟩
 rw[if_neg h1];by_cases h2:isR E s ⟨#[59]⟩=true
 ·rw[if_pos h2];obtain⟨s1,e1,m1,i1,t1,o1,-⟩:=aT hE (mv0 hi) (cY h2);rw[e1];refine .ret m1 fun e=>⟨?_,(op7 a).2.2.2.2.2⟩;rw[mS _ _ _ _ _ (by decide)];omega
 rw[if_neg h2];by_cases h3:(aJ E s).k=2∨cP E s ⟨#[108,101,116]⟩=true
 ·rw[if_pos h3];refine(KF hE hr _ many hi (h3.elim (fun h=>by omega) eC) hn).bd (mv0 hi) fun x s1 m1 n1 l1 t1 o1 q1=>?_;split
  ·rename_i h;exact .ret m1 fun e=>(q1 e).1 h
  ·rename_i h;have h5:=aAb hE hr (m1.inn hi) (by omega);refine⟨m1.trans h5.mv,fun e=>?_⟩;have e1:=(q1 (h5.mv.ok e)).2 (by cases b:x.2 with|false=>rfl|true=>exact absurd b h);have:=h5.ok e;rw[e1]at this⊢;exact this
 rw[if_neg h3];by_cases h4:(aJ E s).k=1∧sgn (ahR E 1 s) ⟨#[58]⟩=true
 ·rw[if_pos h4];obtain⟨s1,e1,m1,i1,t1,o1,-⟩:=aT hE (mv0 hi) (by omega);rw[e1];obtain⟨s2,e2,m2,l2,t2,o2⟩:=DZ m1;rw[e2];refine(hr.stm false s2 (m2.inn hi) (by omega)).bd m2 fun k s3 m3 n3 l3 t3 o3 q3=>.ret m3 fun e=>?_;obtain⟨w3,g3⟩:=q3 e;refine⟨?_,g23 a (oB hE s) (hE.fm _ (.inl h4.1)) g3⟩;rw[sA _ _ _ _ _ _ (by decide)];omega
 rw[if_neg h4];exact aAb hE hr hi hn
end
theorem qV{E:TkE}(hE:TOk E src):∀n,nB E src n (sB E n)
 |0=>⟨fun _ _ s _ _ h=>by omega,fun _ _ _ _ s _ _ h=>by omega,fun s _ h=>by omega,fun s _ h=>by omega,fun _ s _ h=>by omega,fun s _ h=>by omega⟩
 | n+1=>⟨fun b a s hi c h=>aAk hE (qV hE n) b a hi c (by omega),fun b k x y s hi hb h=>aCx hE (qV hE n) b k x y hi hb (by omega),fun s hi h=>aA5 hE (qV hE n) hi (by omega),
   fun s hi h hk=>aCl hE (qV hE n) hi hk (by omega),fun b s hi h=>aD7 hE (qV hE n) b hi (by omega),fun s hi h=>WX hE (qV hE n) hi (by omega)⟩
theorem UW{ts:List Tok}(hE:TOk (iH ts) src)(hlen:ts.length≤3001):((lP ts).2.2≠0→(lP ts).1=T.zero∧Pl src (lP ts).2.1)∧
 ((lP ts).2.2=0→(lP ts).2.1=0∧(lP ts).1.op=1∧Gt src (lP ts).1 false∧BX (lP ts).1≤200∧(lP ts).1.size≤100000):=by
 have hi:In (iH ts) src rs0:=⟨hE.len,⟨gH _,by show(0:Int)≤_;omega⟩,aP _⟩;have h:=vO hE (qV hE (nZ (iH ts))) false hi fun _=>by unfold nZ;show 8*((iH ts).ts.length-0)+6≤_;omega
 unfold lP;dsimp only;generalize rC (iH ts) (sB (iH ts) (nZ (iH ts))) false rs0=p at h;obtain⟨x,s⟩:=p;unfold bd;dsimp only;have hm:Mv (iH ts) (src.size:Int) rs0 s:=h.mv;have c:s.e=0→(wtL x.1:Int)+30*(rs0.i:Int)≤30*s.i∧∀t∈x.1,Gc src 83 t:=h.ok;unfold uU;dsimp only;have h1:∃s1,(if s.e=0∧(aJ (iH ts) s).k≠0 then iE (iH ts) s else s)=s1∧Mv (iH ts) (src.size:Int) rs0 s1∧(s1.e=0→s1=s):=by
  refine⟨_,rfl,?_⟩;split
  ·exact⟨hm.fail hE.toEOk,fun e=>absurd e AE⟩
  ·exact⟨hm,fun _=>rfl⟩
 obtain⟨s1,e1,m1,o1⟩:=h1;rw[e1];by_cases he:s1.e≠0
 ·rw[if_pos he];exact⟨fun _=>⟨rfl,m1.ap rfl he⟩,fun h=>absurd h he⟩
 ·rw[if_neg he];have b:s1.e=0:=Decidable.not_not.1 he;have a:∃m:Int,(if x.2=true then(1:Int)else 0)=m∧(m=0∨m=1):=⟨_,rfl,by split;exact .inr rfl;exact .inl rfl⟩;obtain⟨m,em,a⟩:=a;rw[em];by_cases hd:200<BX (T.mk 1 0 m 0 empty x.1)
  ·rw[if_pos hd];exact⟨fun _=>⟨rfl,gH _,by show(0:Int)≤_;omega⟩,fun h=>absurd h (by decide)⟩
  ·rw[if_neg hd];have e2:=o1 b;rw[e2]at b;obtain⟨w,g⟩:=c b;refine⟨fun h=>absurd rfl h,fun _=>⟨rfl,rfl,g1 ⟨gH _,by omega⟩ a g,lK hd,?_⟩⟩;have hs:=yM (T.mk 1 0 m 0 empty x.1);rw[xA _ _ _ _ _ _ (by decide)]at hs;have:=hm.lt;have h5:(iH ts).ts.length=ts.length:=rfl;have h6:rs0.i=0:=rfl;dsimp only;omega
end
section
open Go.RowKit Go.Vcg
theorem TO(base:Int)(hb:0≤base):∀(xs:List UInt8) (n:Int) (ok:Bool),0≤n∧n≤tV→0≤(cI base xs n ok).1∧(cI base xs n ok).1≤tV
 |[],n,ok,h=>h
 | b::r,n,ok,h=>by
   rw[cI];split
   ·exact h
   ·rename_i h1;have h2:0≤n*base:=Int.mul_nonneg h.1 hb;split
    ·exact TO base hb r 0 false (by decide)
    ·exact TO base hb r _ ok (by omega)
theorem OY{q:UInt8}:∀{xs:List UInt8} {k n:Nat} {o:List UInt8},qK q k xs=.ok (o,n)→o.length≤xs.length
 |[],k,n,o,h=>by unfold qK at h;cases h
 | b::r,k+1,n,o,h=>by
   rw[qK]at h;unfold xF at h;split at h
   ·rename_i o' m hm;cases h;have:=OY hm;simp only[aF];omega
   ·cases h
 | b ::r,0,n,o,h=>by
   rw[qK]at h;have hc:∀{c:UInt8} {k:Nat} {o:List UInt8} {n:Nat},oK c (qK q k r)=.ok (o,n)→o.length≤(b::r).length:=fun{c k o n} h=>by
    unfold oK at h;split at h
    ·rename_i o' m hm;cases h;have:=OY hm;simp only[aF];omega
    ·cases h
   split at h
   ·cases h;simp
   ·split at h
    ·cases h
    ·split at h
     ·exact hc h
     ·split at h
      ·cases h
      ·exact hc h
theorem PE:∀{xs:List UInt8} {k n:Nat} {o:List UInt8},pK k xs=.ok (o,n)→o.length≤xs.length
 |[],k,n,o,h=>by unfold pK at h;cases h
 | b::r,k+1,n,o,h=>by
   rw[pK]at h;unfold xF at h;split at h
   ·rename_i o' m hm;cases h;have:=PE hm;simp only[aF];omega
   ·cases h
 | b ::r,0,n,o,h=>by
   rw[pK]at h;have hc:∀{c:UInt8} {k:Nat} {o:List UInt8} {n:Nat},oK c (pK k r)=.ok (o,n)→o.length≤(b::r).length:=fun{c k o n} h=>by
    unfold oK at h;split at h
    ·rename_i o' m hm;cases h;have:=PE hm;simp only[aF];omega
    ·cases h
   split at h
   ·cases h;simp
   ·split at h
    ·exact hc h
    ·split at h
     ·cases h
     ·exact hc h
theorem HV(p:Int→Bool):∀(xs:List UInt8),∀b∈xs.take (fN p xs),on8 p b=true
 |[],b,h=>by simp[fN]at h
 | c::r,b,h=>by
   unfold fN at h;split at h
   ·rename_i hc;rw[dM]at h;exact(aV.1 h).elim (fun e=>e▸hc) (HV p r b)
   ·simp at h
theorem aB1{b:UInt8}(h:on8 zZ b=true):AN b.toNat:=by
 unfold on8 zZ at h;simp only[aY,decide_eq_true_eq]at h;unfold AN;omega
theorem aB8{b:UInt8}(h:on8 idI b=true):AN b.toNat∨FV b.toNat:=by
 unfold on8 idI zZ mV at h;simp only[aY,decide_eq_true_eq]at h;unfold AN FV;omega
structure T1G (xs:List UInt8) (t:T1):Prop where
 nm:t.k=1∨t.k=2→MT t.s
 at1:t.k=1→∃r,xs=t.s++r
 nu:t.k=3→0≤t.n∧t.n≤9007199254740992
 sz:t.s.length≤xs.length
theorem aE4{xs:List UInt8}{tail:Bool}{t:T1}(h:sV xs tail=.ok t):T1G xs t:=by
 unfold sV at h;split at h
 ·cases h;exact⟨fun h=>by simp at h,fun h=>by simp at h,fun h=>by simp at h,by simp⟩
 ·rename_i c r;split at h
  ·rename_i hc;cases h;have d:fN idI (c::r)=fN idI r+1:=by rw[fN];rw[if_pos];unfold on8 idI;unfold on8 at hc;rw[hc];rfl
   refine⟨fun _=>⟨?_,fun i b hb=>?_⟩,fun _=>⟨(c::r).drop (fN idI (c::r)),(fC _ _).symm⟩,fun h=>?_,?_⟩
   ·dsimp only;rw[d];simp
   ·dsimp only at hb;have hm:=HV idI (c::r) b (aZ hb);unfold GB;cases i with
    | zero=>
      rw[d]at hb;have a:some c=some b:=hb;cases a;exact .inl (aB1 hc)
    |succ i=>exact(aB8 hm).imp id fun h=>⟨by omega,h⟩
   ·dsimp only at h;split at h<;>omega
   ·dsimp only;rw[bZ];omega
  ·split at h
   ·split at h
    ·cases h
    ·rename_i n m hn;cases h;refine⟨fun h=>by simp at h,fun h=>by simp at h,fun _=>?_,by simp⟩;unfold BO at hn;split at hn
     ·cases hn
     ·split at hn
      ·cases hn
      ·cases hn;dsimp only;unfold uP;have hm:tV=9007199254740992:=rfl;split
       ·have:=TO 16 (by decide) ((c::r).drop 2) 0 true (by decide);rwa[hm]at this
       ·have:=TO 10 (by decide) (c::r) 0 true (by decide);rwa[hm]at this
   ·split at h
    ·split at h
     ·cases h
     ·rename_i o m hm;cases h;have:=OY hm;exact⟨fun h=>by simp at h,fun h=>by simp at h,fun h=>by simp at h,by simp only[aF];omega⟩
    ·split at h
     ·split at h
      ·cases h
      ·rename_i o m hm;cases h;have:=PE hm;exact⟨fun h=>by simp at h,fun h=>by simp at h,fun h=>by simp at h,by simp only[aF];omega⟩
     ·split at h
      ·cases h
      ·cases h;refine⟨fun h=>by simp at h,fun h=>by simp at h,fun h=>by simp at h,?_⟩;dsimp only;rw[bZ];omega
structure TG (src:ByteArray) (t:Tok):Prop where
 pos:0≤t.at' ∧t.at' ≤src.size
 nm:t.k=1→AtS src t.at' t.s
 fm:t.k=1∨t.k=2→iQ t.s=true
 nu:t.k=3→0≤t.n∧t.n≤9007199254740992
 sz:t.s.size≤4000
 tb:0≤t.to∧t.to≤src.size
theorem aE5{src:ByteArray}(hs:src.size≤4000){to:Nat}{tail:Bool}(a:to≤src.size)(h:rT ((bl src).drop to) tail=0):
 TG src (fW to ((bl src).drop to) tail)∧(fW to ((bl src).drop to) tail).to.toNat≤src.size∧to≤(fW to ((bl src).drop to) tail).to.toNat∧((fW to ((bl src).drop to) tail).k≠0→to< (fW to ((bl src).drop to) tail).to.toNat):=by
 obtain⟨t,g,ln,h1,h2,h3,h4⟩:=SN (to:=to) h;rw[h3];have hg:=aE4 h2;rw[bC,dU]at h4;have b:(ofL t.s).size=t.s.length:=by rw[←dU,rM]
 have hl:=hg.sz;rw[bC,bC,dU]at hl;refine⟨⟨⟨by show(0:Int)≤((to+g:Nat):Int);omega,by show((to+g:Nat):Int)≤_;omega⟩,fun hk=>?_,fun hk=>?_,hg.nu,by show(ofL t.s).size≤_;omega,by show(0:Int)≤((to+g+t.len:Nat):Int);omega,by show((to+g+t.len:Nat):Int)≤_;omega⟩,?_,?_,?_⟩
 ·obtain⟨r,hr⟩:=hg.at1 hk;refine⟨(bl src).take (to+g),r,?_,?_⟩
  ·show bl src=(bl src).take (to+g)++bl (ofL t.s)++r
   rw[rM,bR,←hr,cF,fC]
  ·show((to+g:Nat):Int)=_
   rw[bZ,dU];omega
 ·refine SZ ?_;show MT (bl (ofL t.s))
  rw[rM];exact hg.nm hk
 ·show((to+g+t.len:Nat):Int).toNat≤_
  omega
 ·show _≤((to+g+t.len:Nat):Int).toNat
  omega
 ·intro hk;show _< ((to+g+t.len:Nat):Int).toNat
  have ho:=CN h2;by_cases hn:((bl src).drop to).drop g=[]
  ·exact absurd (ho.2.2 hn) hk
  ·have:=(ho.2.1 hn).1;omega
abbrev TsG(src:ByteArray)(l:List Tok):Prop:=(∀t∈l,TG src t)∧∃m z,l=m++[z]∧∀t∈[z],t.k=0
theorem aAn{src:ByteArray}(hs:src.size≤4000):∀(f to:Nat) (os:List Int),to≤src.size→src.size+1≤f+to→
 ((FR (bl src) f to os).2.2=0→TsG src (FR (bl src) f to os).1∧(FR (bl src) f to os).1.length≤src.size+1-to)∧((FR (bl src) f to os).2.2≠0→(FR (bl src) f to os).2.1≤src.size)
 |0,to,os,a,hf=>by omega
 | f + 1,to,os,a,hf=>by
   rw[FR];split
   ·rename_i h;refine⟨fun e=>absurd e h,fun _=>?_⟩;have:=rW ((bl src).drop to) 0 false (by omega);rw[bC,dU]at this;dsimp only;omega
   ·rename_i h;have he:=Decidable.not_not.1 h;obtain⟨g1,g2,g3,g4⟩:=aE5 hs (tail:=kR os) a he;split
    ·rename_i hk;refine⟨fun _=>⟨⟨fun t ht=>?_,[],_,rfl,fun t ht=>?_⟩,by simp;omega⟩,fun e=>absurd rfl e⟩
     ·rw[bM.1 ht];exact g1
     ·rw[bM.1 ht];exact hk
    ·rename_i hk;have b:=g4 hk;have ih:=aAn hs f (fW to ((bl src).drop to) (kR os)).to.toNat (nU os (fW to ((bl src).drop to) (kR os)).k (fW to ((bl src).drop to) (kR os)).n (bl (fW to ((bl src).drop to) (kR os)).s) (fW to ((bl src).drop to) (kR os)).op) g2 (by omega);generalize FR (bl src) f (fW to ((bl src).drop to) (kR os)).to.toNat (nU os (fW to ((bl src).drop to) (kR os)).k (fW to ((bl src).drop to) (kR os)).n (bl (fW to ((bl src).drop to) (kR os)).s) (fW to ((bl src).drop to) (kR os)).op)=r at ih;unfold xW;by_cases hr:r.2.2=0
     ·rw[if_pos hr];refine⟨fun _=>?_,fun e=>absurd hr e⟩;obtain⟨⟨h1,m,z,h2,h3⟩,h4⟩:=ih.1 hr;refine⟨⟨fun t ht=>?_,_::m,z,by show _++r.1=_;rw[h2];rfl,h3⟩,?_⟩
      ·rcases bU.1 ht with ht|ht
       ·rw[bM.1 ht];exact g1
       ·exact h1 t ht
      ·simp only[aB,aF,aL];omega
     ·rw[if_neg hr];exact⟨fun e=>absurd e hr,ih.2⟩
theorem QU{src:ByteArray}(hs:src.size≤4000):((mW (bl src)).2.2=0→TsG src (mW (bl src)).1∧(mW (bl src)).1.length≤src.size+1)∧((mW (bl src)).2.2≠0→(mW (bl src)).2.1≤src.size):=by
 have h:=aAn hs ((bl src).length+2) 0 [] (cU _) (by rw[dU];omega);exact⟨fun e=>⟨(h.1 e).1,by have:=(h.1 e).2;unfold mW;omega⟩,h.2⟩
theorem DB{src:ByteArray}(hs:src.size≤4000){ts:List Tok}(h:TsG src ts):TOk (iH ts) src:=by
 obtain⟨h1,m,z,h2,h3⟩:=h;have b:z.k=0:=h3 z (bM.2 rfl);have hg:∀k,TG src (tk (iH ts) k):=fun k=>by
  show TG src (ts.getD k nC)
  rw[cE];cases hk:ts[k]? with
  |none=>exact⟨⟨gH _,by show(0:Int)≤_;omega⟩,fun h=>absurd h (by decide),fun h=>absurd h (by decide),fun h=>absurd h (by decide),by decide,gH _,by show(0:Int)≤_;omega⟩
  |some t=>exact h1 t (aZ hk)
 refine{ len:=?_,last:=fun k hk=>?_,pos:=fun k=>(hg k).pos,lo:=by omega,nm:=fun k=>(hg k).nm,fm:=fun k=>(hg k).fm,nu:=fun k=>(hg k).nu,sz:=fun k=>(hg k).sz,tb:=fun k=>(hg k).tb,sm:=hs }
 ·show 0<ts.length
  rw[h2];simp
 ·show k+1<ts.length
  have a:(ts.getD k nC).k≠0:=hk;rw[cE]at a;rw[h2]at a⊢;rw[aB];by_cases c:k<m.length
  ·simp;omega
  ·exfalso;apply a;by_cases he:k=m.length
   ·rw[he,bQ (aP _),iP];exact b
   ·rw[dQ (by simp;omega)];rfl
end
end Go.Proofs.YtknieidhopbngaaGreat
namespace Go.Vcg
section
open Go.RowKit
section
variable{P:Program}{X:Ctx}{Q:Exit→Act→World→Prop}{μ:Mem}{l:bG}{L L' :List Bk}{a:Act}{w:World}
theorem aCa{c:Code}(hp:L'.Perm L)(h:GC P X c Q μ l L'):GC P X c Q μ l L:=fun a w hs=>h a w (hs.perm hp)
theorem aB9{e:Exit}(hp:L'.Perm L)(h:GQ X Q e μ l L'):GQ X Q e μ l L:=fun a w hs=>h a w (hs.perm hp)
theorem ZO{ops:Array Oper}{rest:List Oper}(hp:L'.Perm L)(h:G P X ops Q rest μ l L'):G P X ops Q rest μ l L:=fun a w hs=>h a w (hs.perm hp)
end
end
section
open Go.RowKit
theorem uV:∀a b:List Bk,splitB a.length (a++b)=some (a,b)
 |[],b=>rfl
 | x::a,b=>by
   show(match splitB a.length (a++b)with|some (p,q)=>some (x::p,q)|none=>none)=_
   rw[uV a b]
section
variable{P:Program}{X:Ctx}{ops:Array Oper}{Q:Exit→Act→World→Prop}{rest:List Oper}{μ:Mem}{l:bG}{L:List Bk}{o:Oper}{d:Nat}{w:World}
theorem Ent.perm{L' :List Bk}{f:FuncId}{vs:Array Value}(hp:L'.Perm L)(h:Ent P μ l L o f vs):Ent P μ l L' o f vs:=fun a w hr=>h a w ⟨hr.slots,hr.mem,fun x b=>hr.own x (hp.mem_iff.2 b)⟩
theorem nN{f:FuncId}{vs:Array Value}{ι:Type}{Ls:ι→List Bk}{Post:Mem→Value→ι→Prop}{LB Lr:List Bk}(k:Nat)(hd:o.dst=some d)(hn:Nat.blt d X.n=true)(hw:dW ops l o=some true)(hr:Ent P μ l L o f vs)
 (hL:splitB k L=some (Lr,LB))
 (hc:∀w,MOk μ w→Own μ LB w→Calls P f vs w fun e w' =>∃v μ' i,e=.returned v∧iO (fM LB) w w' μ (Ls i) μ' ∧Post μ' v i)
 (h:∀v μ' i,MLe μ μ' →Post μ' v i→G P X ops Q rest μ' ((d,v)::l) (Lr++Ls i)):G P X ops Q (o::rest) μ l L:=by
 have he:=iA hL;subst he;exact ZO fD (MQ LB.length hd hn hw (hr.perm fD) (uV LB Lr) hc fun v μ' i hle hp=>ZO fD (h v μ' i hle hp))
theorem RV.perm{L' :List Bk}{r:ResultVar}{v:Value}(hp:L'.Perm L)(h:RV P μ l L r v):RV P μ l L' r v:=fun a w hr=>h a w ⟨hr.slots,hr.mem,fun x b=>hr.own x (hp.mem_iff.2 b)⟩
theorem aBf{fn:Func}{n:Nat}{r:ResultVar}{v:Value}{μ0:Mem}{M:List Nat}{ι:Type}{Ls:ι→List Bk}{Post:Mem→Value→ι→Prop}{L' Lr:List Bk}(k:Nat)(i:ι)(b:∀D,M.count D≤1)(hr:fn.results= #[r])(h:RV P μ l L r v)(hL:splitB k L=some (Lr,L'))(a:Ls i=L')
 (hp:∀μ',MLe μ μ' →Post μ' v i):
 GQ ⟨w,μ0,M,n⟩ (bodyPost P fn (fun e w' =>∃v μ' i,e=.returned v∧iO M w w' μ0 (Ls i) μ' ∧Post μ' v i)) .ret μ l L:=by
 have he:=iA hL;subst he;exact aB9 fD (aBg L'.length i b hr (h.perm fD) (uV L' Lr) a hp)
end
end
section
open Go.RowKit
theorem bF:∀{L:List Bk},L.Pairwise (fun x y=>∀b,Bk.id x=some b→Bk.id y≠some b)→∀D,(fM L).count D≤1
 |[],_,D=>by simp[fM]
 | x ::r,h,D=>by
   obtain⟨h1,h2⟩:=List.pairwise_cons.1 h;have ih:=bF h2 D;unfold fM;cases g:Bk.id x with
   |none=>exact ih
   | some c=>
     dsimp only;rw[List.count_cons];by_cases hc:c=D
     ·subst hc;have:(fM r).count c=0:=List.count_eq_zero.2 fun hm=>by obtain⟨y,d,a⟩:=fX.1 hm;exact h1 y d c g a
      simp[this]
     ·simp[hc];exact ih
end
section
open Go.RowKit
theorem ca{α:Type}(a:α)(l m:List α):(a::l)++m=a::(l++m):=rfl
theorem na{α:Type}(m:List α):[]++m=m:=rfl
theorem ML{μ μ' :Mem}(h:MLe μ μ' :=by first|exact MLe.refl _|assumption):MLe μ μ' :=h
section
variable{P:Program}{X:Ctx}{Q:Exit→Act→World→Prop}{μ:Mem}{l:bG}{L:List Bk}{a:Act}{w:World}
theorem St.wX{n:Nat}{μ0:Mem}{w' :World}{M:List Nat}{L' Lr:List Bk}(hs:St ⟨w,μ0,M,n⟩ μ0 l (Lr++L') a w'):iO M w w' μ0 L' μ0:=by
 have hd:=List.pairwise_append.1 hs.diff;exact⟨⟨hs.cW.os,hs.cW.tape,hs.cW.output,hs.cW.size,hs.cW.block,fun _ _ e=>e,hs.mem,fun _ _ _ h=>h⟩,⟨fun x c=>hs.own x (cO _ c),fun x c b d=>hs.priv x (cO _ c) b d,hd.2.1⟩,fun x c=>hs.new x (cO _ c)⟩
theorem aGk{fn:Func}{n:Nat}{r:ResultVar}{v v' :Value}{μ0:Mem}{M:List Nat}{L' Lr:List Bk}(k:Nat)(b:∀D,M.count D≤1)(hr:fn.results= #[r])(h:RV P μ0 l L r v)(hL:splitB k L=some (Lr,L'))(hv:v=v'):
 GQ ⟨w,μ0,M,n⟩ (bodyPost P fn (fun e w' =>e=.returned v' ∧iO M w w' μ0 L' μ0)) .ret μ0 l L:=fun a w' hs=>by
 have he:=iA hL;subst he hv;exact⟨hs.defers.none b,v,results1 hr h hs.rd,rfl,hs.wX⟩
theorem aEp{fn:Func}{n:Nat}{μ0:Mem}{M:List Nat}{L' Lr:List Bk}{e:Exit}(k:Nat)(he:e=.ret∨e=.normal)(c:∀D,M.count D≤1)(hr:fn.results= #[])(hL:splitB k L=some (Lr,L')):
 GQ ⟨w,μ0,M,n⟩ (bodyPost P fn (fun e w' =>(∃v,e=.returned v)∧iO M w w' μ0 L' μ0)) e μ0 l L:=fun a w' hs=>by
 have b:=iA hL;subst b;have:∃v,(results fn a.tmps).run P w' =.ok v w' :=by simp[results,hr]
 obtain⟨v,hv⟩:=this;rcases he with rfl|rfl
 all_goals exact⟨hs.defers.none c,v,hv,⟨v,rfl⟩,hs.wX⟩
theorem iO.le1{M:List Nat}{w' :World}{μ0 μ' :Mem}{x y:Bk}(h:jC x y)(hb:iO M w w' μ0 [y] μ'):iO M w w' μ0 [x] μ' :=by
 obtain⟨hg,ho,hn⟩:=hb;have hid:=h.id;refine⟨hg,⟨fun z a=>?_,fun z a b hb=>?_,by simp⟩,fun z a b hb=>?_⟩
 ·rw[bM.1 a];exact h.at (ho.own y (bM.2 rfl))
 ·rw[bM.1 a,hid]at hb;exact ho.priv y (bM.2 rfl) b hb
 ·rw[bM.1 a,hid]at hb;exact hn y (bM.2 rfl) b hb
theorem XP{fn:Func}{n:Nat}{r:ResultVar}{v v' :Value}{μ0:Mem}{M:List Nat}{Lr:List Bk}{x y:Bk}(k:Nat)(c:∀D,M.count D≤1)(hr:fn.results= #[r])(h:RV P μ0 l L r v)(hL:splitB k L=some (Lr,[y]))(hv:v=v')(b:jC x y):
 GQ ⟨w,μ0,M,n⟩ (bodyPost P fn (fun e w' =>e=.returned v' ∧iO M w w' μ0 [x] μ0)) .ret μ0 l L:=fun a w' hs=>by
 have he:=iA hL;subst he hv;exact⟨hs.defers.none c,v,results1 hr h hs.rd,rfl,hs.wX.le1 b⟩
theorem IU{fn:Func}{n:Nat}{μ0:Mem}{M:List Nat}{Lr:List Bk}{e:Exit}{x y:Bk}(k:Nat)(he:e=.ret∨e=.normal)(d:∀D,M.count D≤1)(hr:fn.results= #[])(hL:splitB k L=some (Lr,[y]))(c:jC x y):
 GQ ⟨w,μ0,M,n⟩ (bodyPost P fn (fun e w' =>(∃v,e=.returned v)∧iO M w w' μ0 [x] μ0)) e μ0 l L:=fun a w' hs=>by
 have b:=iA hL;subst b;have:∃v,(results fn a.tmps).run P w' =.ok v w' :=by simp[results,hr]
 obtain⟨v,hv⟩:=this;rcases he with rfl|rfl
 all_goals exact⟨hs.defers.none d,v,hv,⟨v,rfl⟩,hs.wX.le1 c⟩
theorem Bk.wM{x:Bk}{μ μ' :Mem}(h:Bk.sh x μ)(hle:MLe μ μ'):Bk.sh x μ' :=by
 cases x with
 | inl x=>
   obtain⟨arr,h1,h2,h3⟩:=h;exact⟨arr,hle _ _ h1,h2,h3⟩
 | inr r=>
   obtain⟨a,h|⟨g,cap,cur,h1,h2,h3⟩⟩:=h
   ·exact⟨a,.inl h⟩
   ·exact⟨a,.inr ⟨g,cap,cur,h1,hle _ _ h2,h3⟩⟩
 |mp m=>exact hle _ _ h
 |it b m s x c=>exact hle _ _ h
theorem St.qT:∀{Lr Lb:List Bk} {μ:Mem},St X μ l (Lr++Lb) a w→∃μ',MLe μ μ' ∧(∀z∈Lr,Bk.sh z μ')∧St X μ' l Lb a w
 |[],_,μ,h=>⟨μ,MLe.refl _,fun z d=>(by cases d),h⟩
 | y::Lr,Lb,μ,h=>by obtain⟨μ1,c,g,h1⟩:=St.aDc (L:=Lr++Lb) h rfl;obtain⟨μ2,b,hr,h2⟩:=St.qT h1;exact⟨μ2,c.trans b,fun z d=>(aV.1 d).elim (fun e=>e▸Bk.wM g b) (hr z),h2⟩
theorem eS{fn:Func}{n:Nat}{r:ResultVar}{v:Value}{μ0:Mem}{M:List Nat}{Lr:List Bk}{R:Mem→Value→Prop}{x y:Bk}(k:Nat)(o:∀D,M.count D≤1)(hr:fn.results= #[r])(h:RV P μ l L r v)(hL:splitB k L=some (Lr,[y]))(j:jC x y)
 (hp:∀μ',MLe μ μ' →(∀z∈Lr,Bk.sh z μ')→R μ' v):
 GQ ⟨w,μ0,M,n⟩ (bodyPost P fn (fun e w' =>∃(v:Value) (μ' :Mem) (_:Unit),e=.returned v∧iO M w w' μ0 [x] μ' ∧R μ' v)) .ret μ l L:=fun a w' hs=>by
 have he:=iA hL;subst he;obtain⟨μ1,c,d,g⟩:=St.qT hs;obtain⟨μ2,hb,b⟩:=St.rH (L' :=[y]) (Lr:=[]) g;exact⟨hs.defers.none o,v,results1 hr h hs.rd,v,μ2,(),rfl,hb.le1 j,hp μ2 (c.trans b) fun z i=>Bk.wM (d z i) b⟩
end
end
end Go.Vcg
namespace Go.Proofs.YtknieidhopbngaaGreat
section
open Go.RowKit Go.Vcg
abbrev PY(i:Int):List Value:=[.int .i64 i]
structure RPl where
 (A:Option Addr) (c:Nat) (A2:Option Addr) (c2:Nat)
abbrev RB(E:TkE)(V:RPl)(xb:Nat)(s:RdS):Bk:=.inl ⟨xb,52,11,[(0,.slice V.A E.ts.length V.c),(1,.int .i64 (s.i:Int)),(2,.bool s.gen),(3,.int .i64 s.e),(4,.int .i64 s.at'),(5,.slice V.A2 E.ts.length V.c2),(6,.int .i64 (s.bg:Int)),(7,.int .i64 s.as'),(8,.int .i64 s.lf),(9,.int .i64 s.lt),(10,.int .i64 s.la)]⟩
structure RM (E:TkE) (V:RPl) (μ:Mem):Prop where
 toks:Sl eB 7 μ V.A E.ts.length E.ts
 ends:Sl PY 1 μ V.A2 E.ts.length E.cl
 few:E.ts.length≤100000
 cl:∀x∈E.cl,-1≤x∧x<E.ts.length
theorem RM.mono{E:TkE}{V:RPl}{μ μ' :Mem}(h:RM E V μ)(hle:MLe μ μ'):RM E V μ' :=⟨h.toks.mono hle,h.ends.mono hle,h.few,h.cl⟩
def CP(E:TkE)(V:RPl)(xb:Nat)(f:FuncId)(args:List Value)(s s' :RdS)(v:Value)(μ:Mem):Prop:=∀(w:World),MOk μ w→Go.Vcg.Own μ [RB E V xb s] w→
 Calls Tryz.prog f args.toArray w fun e w' =>e=.returned v∧iO (fM [RB E V xb s]) w w' μ [RB E V xb s'] μ
def CU(E:TkE)(V:RPl)(xb:Nat)(f:FuncId)(args:List Value)(s s' :RdS)(μ:Mem):Prop:=∀(w:World),MOk μ w→Go.Vcg.Own μ [RB E V xb s] w→
 Calls Tryz.prog f args.toArray w fun e w' =>(∃v,e=.returned v)∧iO (fM [RB E V xb s]) w w' μ [RB E V xb s'] μ
def zCR(E:TkE)(V:RPl)(xb:Nat)(f:FuncId)(args:List Value)(s s' :RdS)(μ:Mem)(R:Mem→Value→Prop):Prop:=∀(w:World),MOk μ w→Go.Vcg.Own μ [RB E V xb s] w→
 Calls Tryz.prog f args.toArray w fun e w' =>∃(v:Value) (μ' :Mem) (_:Unit),e=.returned v∧iO (fM [RB E V xb s]) w w' μ [RB E V xb s'] μ' ∧R μ' v
section
variable{X:Ctx}{ops:Array Oper}{Q:Exit→Act→World→Prop}{rest:List Oper}{μ:Mem}{l:bG}{L Lr:List Bk}{o:Oper}{d:Nat}{f:FuncId}{args:List Value}{xb:Nat}{s s' :RdS}{E:TkE}{V:RPl}
theorem ZR{v:Value}(k:Nat)(hd:o.dst=some d)(hn:Nat.blt d X.n=true)(hw:dW ops l o=some true)(hr:Ent Tryz.prog μ l L o f args.toArray)(hL:splitB k L=some (Lr,[RB E V xb s]))(hc:CP E V xb f args s s' v μ)
 (h:G Tryz.prog X ops Q rest μ ((d,v)::l) (Lr++[RB E V xb s'])):G Tryz.prog X ops Q (o::rest) μ l L:=
 nN (ι:=Unit) (Ls:=fun _=>[RB E V xb s']) (Post:=fun μ' v' _=>v' =v∧μ' =μ) k hd hn hw hr hL (fun w hμ a=>(hc w hμ a).mono fun _ _ he=>⟨v,μ,(),he.1,he.2,rfl,rfl⟩) fun v' μ' _ _ hp=>by obtain⟨rfl,rfl⟩:=hp;exact h
theorem VV(k:Nat)(hd:o.dst=some d)(hn:Nat.blt d X.n=true)(hw:dW ops l o=some true)(hr:Ent Tryz.prog μ l L o f args.toArray)(hL:splitB k L=some (Lr,[RB E V xb s]))(hc:CU E V xb f args s s' μ)
 (h:∀v:Value,G Tryz.prog X ops Q rest μ ((d,v)::l) (Lr++[RB E V xb s'])):G Tryz.prog X ops Q (o::rest) μ l L:=
 nN (ι:=Unit) (Ls:=fun _=>[RB E V xb s']) (Post:=fun μ' _ _=>μ' =μ) k hd hn hw hr hL (fun w hμ a=>(hc w hμ a).mono fun _ _ he=>by obtain⟨⟨v,hv⟩,hb⟩:=he;exact⟨v,μ,(),hv,hb,rfl⟩) fun v' μ' _ _ hp=>by subst hp;exact h v'
theorem PT{R:Mem→Value→Prop}(k:Nat)(hd:o.dst=some d)(hn:Nat.blt d X.n=true)(hw:dW ops l o=some true)(hr:Ent Tryz.prog μ l L o f args.toArray)(hL:splitB k L=some (Lr,[RB E V xb s]))(hc:zCR E V xb f args s s' μ R)
 (h:∀(v:Value) (μ' :Mem),MLe μ μ' →R μ' v→G Tryz.prog X ops Q rest μ' ((d,v)::l) (Lr++[RB E V xb s'])):G Tryz.prog X ops Q (o::rest) μ l L:=
 nN (ι:=Unit) (Ls:=fun _=>[RB E V xb s']) (Post:=fun μ' v _=>R μ' v) k hd hn hw hr hL (fun w hμ a=>hc w hμ a) fun v μ' _ hle hp=>h v μ' hle hp
theorem kS{fn:Func}{n:Nat}{r:ResultVar}{v v' :Value}{w:World}{M:List Nat}(k:Nat)(a:∀D,M.count D≤1)(hr:fn.results= #[r])(h:RV Tryz.prog μ l L r v)(hL:splitB k L=some (Lr,[RB E V xb s]))(hs:s=s')(hv:v=v'):
 GQ ⟨w,μ,M,n⟩ (bodyPost Tryz.prog fn (fun e w' =>e=.returned v' ∧iO M w w' μ [RB E V xb s'] μ)) .ret μ l L:=by
 subst hs;exact aGk k a hr h hL hv
theorem IT{fn:Func}{n:Nat}{w:World}{M:List Nat}{e:Exit}(k:Nat)(he:e=.ret∨e=.normal)(a:∀D,M.count D≤1)(hr:fn.results= #[])(hL:splitB k L=some (Lr,[RB E V xb s]))(hs:s=s'):
 GQ ⟨w,μ,M,n⟩ (bodyPost Tryz.prog fn (fun e w' =>(∃v,e=.returned v)∧iO M w w' μ [RB E V xb s'] μ)) e μ l L:=by
 subst hs;exact aEp k he a hr hL
theorem nS{fn:Func}{n:Nat}{r:ResultVar}{v:Value}{w:World}{M:List Nat}{μ0:Mem}{R:Mem→Value→Prop}(k:Nat)(a:∀D,M.count D≤1)(hr:fn.results= #[r])(h:RV Tryz.prog μ l L r v)(hL:splitB k L=some (Lr,[RB E V xb s]))(hs:s=s')(hp:∀μ',MLe μ μ' →R μ' v):
 GQ ⟨w,μ0,M,n⟩ (bodyPost Tryz.prog fn (fun e w' =>∃(v:Value) (μ' :Mem) (_:Unit),e=.returned v∧iO M w w' μ0 [RB E V xb s'] μ' ∧R μ' v)) .ret μ l L:=by
 subst hs;exact aBf (Ls:=fun _=>[RB E V xb s]) (Post:=fun μ' v _=>R μ' v) k () a hr h hL rfl hp
end
section
variable{X:Ctx}{ops:Array Oper}{Q:Exit→Act→World→Prop}{rest:List Oper}{μ:Mem}{l:bG}{L Lr:List Bk}{o:Oper}{d:Nat}{f:FuncId}{args:List Value}{xb:Nat}{s s' :RdS}{E:TkE}{V:RPl}
theorem HP1{v:Value}(k:Nat)(hL:splitB k L=some (Lr,[RB E V xb s]))(hc:CP E V xb f args s s' v μ)(h:G Tryz.prog X ops Q rest μ ((d,v)::l) (Lr++[RB E V xb s']))(hd:o.dst=some d:=by exact rfl)(hn:Nat.blt d X.n=true:=by exact rfl)(hw:dW ops l o=some true:=by exact rfl)(hr:Ent Tryz.prog μ l L o f args.toArray:=by(with_reducible apply uF);kernel_rfl;exact rfl):G Tryz.prog X ops Q (o::rest) μ l L:=ZR k hd hn hw hr hL hc h
theorem GP1{v:Value}(hL:splitB (L.length-1) L=some (Lr,[RB E V xb s]))(hc:CP E V xb f args s s' v μ)(h:G Tryz.prog X ops Q rest μ ((d,v)::l) (Lr++[RB E V xb s']))(hd:o.dst=some d:=by exact rfl)(hn:Nat.blt d X.n=true:=by exact rfl)(hw:dW ops l o=some true:=by exact rfl)(hr:Ent Tryz.prog μ l L o f args.toArray:=by(with_reducible apply uF);kernel_rfl;exact rfl):G Tryz.prog X ops Q (o::rest) μ l L:=ZR _ hd hn hw hr hL hc h
theorem HP2{v:Value}(k:Nat)(hL:splitB k L=some (Lr,[RB E V xb s]))(hc:CP E V xb f args s s' v μ)(h:G Tryz.prog X ops Q rest μ ((d,v)::l) (Lr++[RB E V xb s']))(hd:o.dst=some d:=by exact rfl)(hn:Nat.blt d X.n=true:=by exact rfl)(hw:dW ops l o=some true:=by exact rfl)(hr:Ent Tryz.prog μ l L o f args.toArray:=by(with_reducible apply uE);kernel_rfl;exact rfl;exact rfl):G Tryz.prog X ops Q (o::rest) μ l L:=ZR k hd hn hw hr hL hc h
theorem GP2{v:Value}(hL:splitB (L.length-1) L=some (Lr,[RB E V xb s]))(hc:CP E V xb f args s s' v μ)(h:G Tryz.prog X ops Q rest μ ((d,v)::l) (Lr++[RB E V xb s']))(hd:o.dst=some d:=by exact rfl)(hn:Nat.blt d X.n=true:=by exact rfl)(hw:dW ops l o=some true:=by exact rfl)(hr:Ent Tryz.prog μ l L o f args.toArray:=by(with_reducible apply uE);kernel_rfl;exact rfl;exact rfl):G Tryz.prog X ops Q (o::rest) μ l L:=ZR _ hd hn hw hr hL hc h
theorem HR1{R:Mem→Value→Prop}(k:Nat)(hL:splitB k L=some (Lr,[RB E V xb s]))(hc:zCR E V xb f args s s' μ R)(h:∀(v:Value) (μ' :Mem),MLe μ μ' →R μ' v→G Tryz.prog X ops Q rest μ' ((d,v)::l) (Lr++[RB E V xb s']))(hd:o.dst=some d:=by exact rfl)(hn:Nat.blt d X.n=true:=by exact rfl)(hw:dW ops l o=some true:=by exact rfl)(hr:Ent Tryz.prog μ l L o f args.toArray:=by(with_reducible apply uF);kernel_rfl;exact rfl):G Tryz.prog X ops Q (o::rest) μ l L:=PT k hd hn hw hr hL hc h
theorem GR1{R:Mem→Value→Prop}(hL:splitB (L.length-1) L=some (Lr,[RB E V xb s]))(hc:zCR E V xb f args s s' μ R)(h:∀(v:Value) (μ' :Mem),MLe μ μ' →R μ' v→G Tryz.prog X ops Q rest μ' ((d,v)::l) (Lr++[RB E V xb s']))(hd:o.dst=some d:=by exact rfl)(hn:Nat.blt d X.n=true:=by exact rfl)(hw:dW ops l o=some true:=by exact rfl)(hr:Ent Tryz.prog μ l L o f args.toArray:=by(with_reducible apply uF);kernel_rfl;exact rfl):G Tryz.prog X ops Q (o::rest) μ l L:=PT _ hd hn hw hr hL hc h
theorem HR2{R:Mem→Value→Prop}(k:Nat)(hL:splitB k L=some (Lr,[RB E V xb s]))(hc:zCR E V xb f args s s' μ R)(h:∀(v:Value) (μ' :Mem),MLe μ μ' →R μ' v→G Tryz.prog X ops Q rest μ' ((d,v)::l) (Lr++[RB E V xb s']))(hd:o.dst=some d:=by exact rfl)(hn:Nat.blt d X.n=true:=by exact rfl)(hw:dW ops l o=some true:=by exact rfl)(hr:Ent Tryz.prog μ l L o f args.toArray:=by(with_reducible apply uE);kernel_rfl;exact rfl;exact rfl):G Tryz.prog X ops Q (o::rest) μ l L:=PT k hd hn hw hr hL hc h
theorem GR2{R:Mem→Value→Prop}(hL:splitB (L.length-1) L=some (Lr,[RB E V xb s]))(hc:zCR E V xb f args s s' μ R)(h:∀(v:Value) (μ' :Mem),MLe μ μ' →R μ' v→G Tryz.prog X ops Q rest μ' ((d,v)::l) (Lr++[RB E V xb s']))(hd:o.dst=some d:=by exact rfl)(hn:Nat.blt d X.n=true:=by exact rfl)(hw:dW ops l o=some true:=by exact rfl)(hr:Ent Tryz.prog μ l L o f args.toArray:=by(with_reducible apply uE);kernel_rfl;exact rfl;exact rfl):G Tryz.prog X ops Q (o::rest) μ l L:=PT _ hd hn hw hr hL hc h
theorem HR3{R:Mem→Value→Prop}(k:Nat)(hL:splitB k L=some (Lr,[RB E V xb s]))(hc:zCR E V xb f args s s' μ R)(h:∀(v:Value) (μ' :Mem),MLe μ μ' →R μ' v→G Tryz.prog X ops Q rest μ' ((d,v)::l) (Lr++[RB E V xb s']))(hd:o.dst=some d:=by exact rfl)(hn:Nat.blt d X.n=true:=by exact rfl)(hw:dW ops l o=some true:=by exact rfl)(hr:Ent Tryz.prog μ l L o f args.toArray:=by(with_reducible apply zE);kernel_rfl;(iterate 3 exact rfl)):G Tryz.prog X ops Q (o::rest) μ l L:=PT k hd hn hw hr hL hc h
theorem GR3{R:Mem→Value→Prop}(hL:splitB (L.length-1) L=some (Lr,[RB E V xb s]))(hc:zCR E V xb f args s s' μ R)(h:∀(v:Value) (μ' :Mem),MLe μ μ' →R μ' v→G Tryz.prog X ops Q rest μ' ((d,v)::l) (Lr++[RB E V xb s']))(hd:o.dst=some d:=by exact rfl)(hn:Nat.blt d X.n=true:=by exact rfl)(hw:dW ops l o=some true:=by exact rfl)(hr:Ent Tryz.prog μ l L o f args.toArray:=by(with_reducible apply zE);kernel_rfl;(iterate 3 exact rfl)):G Tryz.prog X ops Q (o::rest) μ l L:=PT _ hd hn hw hr hL hc h
theorem GR4{R:Mem→Value→Prop}(hL:splitB (L.length-1) L=some (Lr,[RB E V xb s]))(hc:zCR E V xb f args s s' μ R)(h:∀(v:Value) (μ' :Mem),MLe μ μ' →R μ' v→G Tryz.prog X ops Q rest μ' ((d,v)::l) (Lr++[RB E V xb s']))(hd:o.dst=some d:=by exact rfl)(hn:Nat.blt d X.n=true:=by exact rfl)(hw:dW ops l o=some true:=by exact rfl)(hr:Ent Tryz.prog μ l L o f args.toArray:=by(with_reducible apply TM);kernel_rfl;(iterate 4 exact rfl)):G Tryz.prog X ops Q (o::rest) μ l L:=PT _ hd hn hw hr hL hc h
theorem HU1(k:Nat)(hL:splitB k L=some (Lr,[RB E V xb s]))(hc:CU E V xb f args s s' μ)(h:∀v:Value,G Tryz.prog X ops Q rest μ ((d,v)::l) (Lr++[RB E V xb s']))(hd:o.dst=some d:=by exact rfl)(hn:Nat.blt d X.n=true:=by exact rfl)(hw:dW ops l o=some true:=by exact rfl)(hr:Ent Tryz.prog μ l L o f args.toArray:=by(with_reducible apply uF);kernel_rfl;exact rfl):G Tryz.prog X ops Q (o::rest) μ l L:=VV k hd hn hw hr hL hc h
theorem GU1(hL:splitB (L.length-1) L=some (Lr,[RB E V xb s]))(hc:CU E V xb f args s s' μ)(h:∀v:Value,G Tryz.prog X ops Q rest μ ((d,v)::l) (Lr++[RB E V xb s']))(hd:o.dst=some d:=by exact rfl)(hn:Nat.blt d X.n=true:=by exact rfl)(hw:dW ops l o=some true:=by exact rfl)(hr:Ent Tryz.prog μ l L o f args.toArray:=by(with_reducible apply uF);kernel_rfl;exact rfl):G Tryz.prog X ops Q (o::rest) μ l L:=VV _ hd hn hw hr hL hc h
theorem HU2(k:Nat)(hL:splitB k L=some (Lr,[RB E V xb s]))(hc:CU E V xb f args s s' μ)(h:∀v:Value,G Tryz.prog X ops Q rest μ ((d,v)::l) (Lr++[RB E V xb s']))(hd:o.dst=some d:=by exact rfl)(hn:Nat.blt d X.n=true:=by exact rfl)(hw:dW ops l o=some true:=by exact rfl)(hr:Ent Tryz.prog μ l L o f args.toArray:=by(with_reducible apply uE);kernel_rfl;exact rfl;exact rfl):G Tryz.prog X ops Q (o::rest) μ l L:=VV k hd hn hw hr hL hc h
theorem GU2(hL:splitB (L.length-1) L=some (Lr,[RB E V xb s]))(hc:CU E V xb f args s s' μ)(h:∀v:Value,G Tryz.prog X ops Q rest μ ((d,v)::l) (Lr++[RB E V xb s']))(hd:o.dst=some d:=by exact rfl)(hn:Nat.blt d X.n=true:=by exact rfl)(hw:dW ops l o=some true:=by exact rfl)(hr:Ent Tryz.prog μ l L o f args.toArray:=by(with_reducible apply uE);kernel_rfl;exact rfl;exact rfl):G Tryz.prog X ops Q (o::rest) μ l L:=VV _ hd hn hw hr hL hc h
theorem HU3(k:Nat)(hL:splitB k L=some (Lr,[RB E V xb s]))(hc:CU E V xb f args s s' μ)(h:∀v:Value,G Tryz.prog X ops Q rest μ ((d,v)::l) (Lr++[RB E V xb s']))(hd:o.dst=some d:=by exact rfl)(hn:Nat.blt d X.n=true:=by exact rfl)(hw:dW ops l o=some true:=by exact rfl)(hr:Ent Tryz.prog μ l L o f args.toArray:=by(with_reducible apply zE);kernel_rfl;(iterate 3 exact rfl)):G Tryz.prog X ops Q (o::rest) μ l L:=VV k hd hn hw hr hL hc h
theorem GU3(hL:splitB (L.length-1) L=some (Lr,[RB E V xb s]))(hc:CU E V xb f args s s' μ)(h:∀v:Value,G Tryz.prog X ops Q rest μ ((d,v)::l) (Lr++[RB E V xb s']))(hd:o.dst=some d:=by exact rfl)(hn:Nat.blt d X.n=true:=by exact rfl)(hw:dW ops l o=some true:=by exact rfl)(hr:Ent Tryz.prog μ l L o f args.toArray:=by(with_reducible apply zE);kernel_rfl;(iterate 3 exact rfl)):G Tryz.prog X ops Q (o::rest) μ l L:=VV _ hd hn hw hr hL hc h
end
end
section
open Go.RowKit Go.Vcg
theorem xP{E:TkE}{V:RPl}{μ:Mem}(hm:RM E V μ){k:Nat}(hk:k<E.ts.length):∃ad,V.A=some ad∧iK μ (ad.add (k*7)) (eB (tk E k)):=by
 obtain⟨ad,x,b,a,hc⟩:=hm.toks.get hk;refine⟨ad,b,?_⟩;have:tk E k=x:=by unfold tk;rw[cE,a];rfl
 rw[this];exact hc
theorem aDw{E:TkE}{V:RPl}{μ:Mem}(hm:RM E V μ){k:Nat}(hk:k<E.ts.length):∃ad,V.A2=some ad∧iK μ (ad.add (k*1)) (PY (E.cl.getD k (-1)))∧ -1≤E.cl.getD k (-1)∧E.cl.getD k (-1)<E.ts.length:=by
 obtain⟨ad,x,b,a,hc⟩:=hm.ends.get hk;have:E.cl.getD k (-1)=x:=by rw[cE,a];rfl
 rw[this];exact⟨ad,b,hc,hm.cl x (aZ a)⟩
theorem lt_next{E:TkE}{s:RdS}(h:s.i<E.ts.length):(bJ E s).i<E.ts.length:=by unfold bJ;split;assumption;exact h
theorem SS{E:TkE}{s:RdS}(h:s.i<E.ts.length):(iE E s).i<E.ts.length:=by show E.ts.length-1<_;omega
theorem aE7{E:TkE}{s:RdS}{x:ByteArray}(h:s.i<E.ts.length):(cH E x s).i<E.ts.length:=by unfold cH;split;exact lt_next h;exact h
attribute [local irreducible] G GC GQ GA dV Calls IntKind.wrap Int.decLt Int.decLe
theorem gI(t:Tok)(x:ByteArray)(w:World)(μ:Mem)(hμ:MOk μ w):aO 40 #[.agg (eB t).toArray,.string x] w (.bool (sgn t x)):=by
 refine aQ Tryz.func40 rfl Tryz.ntmps40 (by simp) hμ ?_;try repeat' (first|refine KZ ?_|refine NB fun b=>?_|(refine KB ?_ ?_<;>intro hp))
 all_goals(refine bL rfl rfl ?_;unfold sgn;simp[*])
theorem nR(t:Tok)(w:World)(μ:Mem)(hμ:MOk μ w):aO 163 #[.agg (eB t).toArray] w (.bool (rQ t)):=by
 refine aQ Tryz.func163 rfl Tryz.ntmps163 (by simp) hμ ?_;try repeat' (first|refine KZ ?_|((with_reducible apply C1);exact rfl;exact EN;exact fun w μc hw a=>gI t _ w μc hw)|refine NB fun b=>?_|(refine KB ?_ ?_<;>intro hp))
 all_goals(refine bL rfl rfl ?_;unfold rQ;simp[*])
theorem tC(t:Tok)(w:World)(μ:Mem)(hμ:MOk μ w):aO 59 #[.agg (eB t).toArray] w (.bool (pL t)):=by
 refine aQ Tryz.func59 rfl Tryz.ntmps59 (by simp) hμ ?_;try repeat' (first|refine KZ ?_|refine NB fun b=>?_|(refine KB ?_ ?_<;>intro hp))
 all_goals(refine bL rfl rfl ?_;unfold pL aAl;simp[*])
theorem aF1(x:ByteArray)(w:World)(μ:Mem)(hμ:MOk μ w):aO 147 #[.string x] w (.int .i64 (vF x)):=by
 refine aQ Tryz.func147 rfl Tryz.ntmps147 (by simp) hμ ?_;try repeat' (first|refine KZ ?_|(refine KB ?_ ?_<;>intro hp))
 all_goals(refine bL rfl rfl ?_;unfold vF;simp[*])
section
variable{E:TkE}{V:RPl}{xb:Nat}{s:RdS}{μ:Mem}(hi:s.i<E.ts.length)(hm:RM E V μ)
include hi hm
theorem gR:CP E V xb 22 [.pointer (some ⟨xb,0,none⟩)] s s (oN (aJ E s)) μ:=by
 intro w hμ g;have a:=bF g.diff;obtain⟨A,c,A2,c2⟩:=V;obtain⟨ad,rfl,hc⟩:=xP hm hi;have d:=hm.few;refine aC Tryz.func22 rfl Tryz.ntmps22 (by simp) hμ g ?_;try repeat' (first|refine KZ ?_|refine NB fun b=>?_)
 refine aW 11 _ (by kernel_rfl) rfl (aG (aK aU)) ?_;all_goals(refine D1 0 ?_;refine D1 1 ?_;refine D1 2 ?_;refine DD 3 ?_;refine D1 4 ?_;refine D1 5 ?_;refine D1 6 ?_;refine DD 7 ?_;refine D2 8 rfl (by exact U1 s.i) ?_;refine D2 9 rfl (by exact U4 hc) ?_;refine D3 10 ?_;refine D5 ?_;refine Y0 ?_;refine D9 ?_;refine D8 ?_)
 try repeat' (refine KZ ?_)
 refine kS 1 a rfl ?_ rfl rfl rfl;exact(RG 0 rfl rfl rfl rfl rfl)
theorem qY(n:Nat)(hn:n≤1000):CP E V xb 44 [.pointer (some ⟨xb,0,none⟩),.int .i64 (n:Int)] s s (oN (ahR E n s)) μ:=by
 have _:=hi
 intro w hμ g;have a:=bF g.diff;have hk:min (s.i+n) (E.ts.length-1)<E.ts.length:=by omega
 obtain⟨A,c,A2,c2⟩:=V;obtain⟨ad,rfl,hc⟩:=xP hm hk;have d:=hm.few;have e1:min ((s.i:Int)+ (n:Int)) ((E.ts.length:Int)-1)=((min (s.i+n) (E.ts.length-1):Nat):Int):=by omega
 refine aC Tryz.func44 rfl Tryz.ntmps44 (by simp) hμ g ?_;try repeat' (first|refine KZ ?_|refine NB fun b=>?_)
 refine aW 20 _ (by kernel_rfl) rfl (aG (aK aU)) ?_;all_goals(refine D1 0 ?_;refine D1 1 ?_;refine D1 2 ?_;refine DD 3 ?_;refine D1 4 ?_;refine D1 5 ?_;refine D1 6 ?_;refine DD 7 ?_;refine D1 8 ?_;refine DD 9 ?_;refine D1 10 ?_;refine D1 11 ?_;refine D1 12 ?_;refine DD 13 ?_;refine D1 14 ?_;refine DD 15 ?_;refine DD 16 ?_;refine D2 17 rfl (by exact U1 (min (s.i+n) (E.ts.length-1))) ?_;refine D2 18 rfl (by exact U4 hc) ?_;refine D3 19 ?_;refine D5 ?_;refine Y0 ?_;refine D9 ?_;refine D8 ?_)
 try repeat' (refine KZ ?_)
 refine kS 1 a rfl ?_ rfl rfl rfl;exact(RG 0 rfl rfl rfl rfl rfl)
theorem gY(x:ByteArray):CP E V xb 23 [.pointer (some ⟨xb,0,none⟩),.string x] s s (.bool (isR E s x)) μ:=by
 intro w hμ b;have a:=bF b.diff;refine aC Tryz.func23 rfl Tryz.ntmps23 (by simp) hμ b ?_;try repeat' (first|refine KO ?_|(refine CF 22 ?_;refine HP1 0 rfl (gR (s:=s) hi hm) ?_;dsimp only[ca,na])|refine K2 40 (fun w μc hw c=>gI (aJ E s) x w μc hw) ?_)
 exact kS 0 a rfl (aN rfl) rfl rfl rfl
theorem tP(x:ByteArray):CP E V xb 24 [.pointer (some ⟨xb,0,none⟩),.string x] s s (.bool (cP E s x)) μ:=by
 intro w hμ c;have a:=bF c.diff;refine aC Tryz.func24 rfl Tryz.ntmps24 (by simp) hμ c ?_;try repeat' (first|refine KO ?_|(refine CF 22 ?_;refine HP1 0 rfl (gR (s:=s) hi hm) ?_;dsimp only[ca,na])|refine KZ ?_|refine NB fun b=>?_|(refine KB ?_ ?_<;>intro hp))
 all_goals(refine kS 1 a rfl (aN rfl) rfl rfl ?_;unfold cP;simp[*])
theorem SB(x:ByteArray):CP E V xb 54 [.pointer (some ⟨xb,0,none⟩),.string x] s s (.bool (mZ E s x)) μ:=by
 intro w hμ b;have a:=bF b.diff;refine aC Tryz.func54 rfl Tryz.ntmps54 (by simp) hμ b ?_;try repeat' (first|refine KO ?_|(refine CF 22 ?_;refine HP1 0 rfl (gR (s:=s) hi hm) ?_;dsimp only[ca,na])|refine KZ ?_|(refine KB ?_ ?_<;>intro hp))
 all_goals(refine kS 0 a rfl (aN rfl) rfl rfl ?_;unfold mZ;simp[*])
omit hi hm in
theorem gF(t:Tok):CP E V xb 87 [.pointer (some ⟨xb,0,none⟩),.agg (eB t).toArray] s s (.bool (mL s t)) μ:=by
 intro w hμ c;have a:=bF c.diff;refine aC Tryz.func87 rfl Tryz.ntmps87 (by simp) hμ c ?_;try repeat' (first|refine KZ ?_|refine NB fun b=>?_|(refine KB ?_ ?_<;>intro hp))
 all_goals(refine kS 1 a rfl (aN rfl) rfl rfl ?_;unfold mL;simp[*])
end
end
section
open Go.RowKit Go.Vcg
attribute [local irreducible] G GC GQ GA dV Calls IntKind.wrap Int.decLt Int.decLe
section
variable{E:TkE}{V:RPl}{xb:Nat}{s:RdS}{μ:Mem}(hi:s.i<E.ts.length)(hm:RM E V μ)
include hi hm
theorem fH:CP E V xb 42 [.pointer (some ⟨xb,0,none⟩)] s (bJ E s) (oN (aJ E s)) μ:=by
 intro w hμ c;have a:=bF c.diff;have d:=hm.few;by_cases h:s.i+1<E.ts.length
 ·have e2:bJ E s={ s with i:=s.i+1 }:=by unfold bJ;rw[if_pos h]
  rw[e2];refine aC Tryz.func42 rfl Tryz.ntmps42 (by simp) hμ c ?_;try repeat' (first|refine KO ?_|(refine CF 22 ?_;refine HP1 1 rfl (gR hi hm) ?_;dsimp only[ca,na])|refine KZ ?_|refine NB fun b=>?_)
  refine aW 11 _ (by kernel_rfl) rfl (aG (aG (aK aU))) ?_;all_goals(refine DD 0 ?_;refine DD 1 ?_;refine DD 2 ?_;refine DD 3 ?_;refine DD 4 ?_;refine DD 5 ?_;refine DD 6 ?_;refine DD 7 ?_;refine DD 8 ?_;refine DD 9 ?_;refine DD 10 ?_;refine D8 ?_)
  try repeat' (refine KZ ?_)
  all_goals try(exfalso;omega)
  exact XP 2 a rfl (by exact(RG 1 rfl rfl rfl rfl rfl)) rfl rfl (.cells PU)
 ·have e2:bJ E s=s:=by unfold bJ;rw[if_neg h]
  rw[e2];refine aC Tryz.func42 rfl Tryz.ntmps42 (by simp) hμ c ?_;try repeat' (first|refine KO ?_|(refine CF 22 ?_;refine HP1 1 rfl (gR hi hm) ?_;dsimp only[ca,na])|refine KZ ?_|refine NB fun b=>?_)
  refine aW 11 _ (by kernel_rfl) rfl (aG (aG (aK aU))) ?_;all_goals(refine DD 0 ?_;refine DD 1 ?_;refine DD 2 ?_;refine DD 3 ?_;refine DD 4 ?_;refine DD 5 ?_;refine DD 6 ?_;refine DD 7 ?_;refine DD 8 ?_;refine DD 9 ?_;refine DD 10 ?_;refine D8 ?_)
  try repeat' (refine KZ ?_)
  all_goals try(exfalso;omega)
  exact XP 2 a rfl (by exact(RG 1 rfl rfl rfl rfl rfl)) rfl rfl (.cells PU)
omit hi in
theorem sT(hl:0<E.ts.length)(a e:Int):CU E V xb 46 [.pointer (some ⟨xb,0,none⟩),.int .i64 a,.int .i64 e] s (iF E a e s) μ:=by
 intro w hμ c;have b:=bF c.diff;have d:=hm.few;have e1:(E.ts.length:Int)-1=((E.ts.length-1:Nat):Int):=by omega
 by_cases h:s.e=0
 ·have e2:iF E a e s={ s with i:=E.ts.length-1,at' :=a,e:=e }:=by unfold iF;rw[if_pos h,if_pos h]
  rw[e2];refine aC Tryz.func46 rfl Tryz.ntmps46 (by simp) hμ c ?_;try repeat' (refine KZ ?_)
  all_goals try(exfalso;omega)
  rw[e1];exact IU 0 (.inr rfl) b rfl rfl (.cells PU)
 ·have e2:iF E a e s={ s with i:=E.ts.length-1 }:=by unfold iF;rw[if_neg h,if_neg h]
  rw[e2];refine aC Tryz.func46 rfl Tryz.ntmps46 (by simp) hμ c ?_;try repeat' (refine KZ ?_)
  all_goals try(exfalso;omega)
  rw[e1];exact IU 0 (.inr rfl) b rfl rfl (.cells PU)
theorem nT:CU E V xb 26 [.pointer (some ⟨xb,0,none⟩)] s (iE E s) μ:=by
 intro w hμ b;have a:=bF b.diff;refine aC Tryz.func26 rfl Tryz.ntmps26 (by simp) hμ b ?_;try repeat' (first|refine KO ?_|(refine CF 22 ?_;refine HP1 0 rfl (gR hi hm) ?_;dsimp only[ca,na])|(refine CF 46 ?_;refine HU3 0 rfl (sT hm (by omega) _ _) ?_;intro v9;dsimp only[ca,na])|refine KZ ?_)
 exact IT 0 (.inr rfl) a rfl rfl rfl
theorem lF(x:ByteArray):CP E V xb 53 [.pointer (some ⟨xb,0,none⟩),.string x] s (cH E x s) (.bool (isR E s x)) μ:=by
 intro w hμ b;have a:=bF b.diff;by_cases h:isR E s x=true
 ·have e2:cH E x s=bJ E s:=by unfold cH;rw[if_pos h]
  rw[e2,h];refine aC Tryz.func53 rfl Tryz.ntmps53 (by simp) hμ b ?_;try repeat' (first|refine KO ?_|(refine CF 23 ?_;refine HP2 0 rfl (gY hi hm _) ?_;dsimp only[ca,na])|(refine CF 42 ?_;refine HP1 0 rfl (fH hi hm) ?_;dsimp only[ca,na])|(refine KB ?_ ?_<;>intro hp))
  all_goals try(exfalso;simp_all;done)
  exact kS 0 a rfl (aN rfl) rfl rfl rfl
 ·have e2:cH E x s=s:=by unfold cH;rw[if_neg h]
  have c:isR E s x=false:=by simpa using h
  rw[e2,c];refine aC Tryz.func53 rfl Tryz.ntmps53 (by simp) hμ b ?_;try repeat' (first|refine KO ?_|(refine CF 23 ?_;refine HP2 0 rfl (gY hi hm _) ?_;dsimp only[ca,na])|(refine CF 42 ?_;refine HP1 0 rfl (fH hi hm) ?_;dsimp only[ca,na])|(refine KB ?_ ?_<;>intro hp))
  all_goals try(exfalso;simp_all;done)
  exact kS 0 a rfl (aN rfl) rfl rfl rfl
theorem fJ(x:ByteArray):CU E V xb 65 [.pointer (some ⟨xb,0,none⟩),.string x] s (eP E x s) μ:=by
 intro w hμ b;have a:=bF b.diff;by_cases h:isR E s x=true
 ·have e2:eP E x s=cH E x s:=by unfold eP cH;rw[if_pos h,if_pos h]
  rw[e2];refine aC Tryz.func65 rfl Tryz.ntmps65 (by simp) hμ b ?_;try repeat' (first|refine KO ?_|(refine CF 53 ?_;refine HP2 0 rfl (lF hi hm _) ?_;dsimp only[ca,na])|(refine KB ?_ ?_<;>intro hp))
  all_goals try(exfalso;simp_all;done)
  exact IT 0 (.inr rfl) a rfl rfl rfl
 ·have e2:eP E x s=iE E s:=by unfold eP;rw[if_neg h]
  have e3:cH E x s=s:=by unfold cH;rw[if_neg h]
  rw[e2];refine aC Tryz.func65 rfl Tryz.ntmps65 (by simp) hμ b ?_;try repeat' (first|refine KO ?_|(refine CF 53 ?_;refine HP2 0 rfl (lF hi hm _) ?_;dsimp only[ca,na])|(refine CF 26 ?_;refine HU1 0 rfl (nT (aE7 hi) hm) ?_;intro v9;dsimp only[ca,na])|(refine KB ?_ ?_<;>intro hp))
  all_goals try(exfalso;simp_all;done)
  exact IT 0 (.inr rfl) a rfl rfl (by rw[e3])
end
end
end Go.Proofs.YtknieidhopbngaaGreat
