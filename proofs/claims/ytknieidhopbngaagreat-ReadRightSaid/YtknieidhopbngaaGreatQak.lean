/- The parser's facts, continued: assignments, arrows, conditions, binary expressions. -/
import Derived.Test.YtknieidhopbngaaGreatQaj
set_option maxRecDepth 20000
namespace Go.Proofs.YtknieidhopbngaaGreat
section
open Go.RowKit Go.Vcg
variable{src:ByteArray}
theorem aHp{t:Tok}(h:pL t=true):t.k=5∧lX t.s tG=true:=by
 unfold pL at h;rw[aM,decide_eq_true_eq]at h;refine⟨h.2,?_⟩;have h1:=h.1;unfold aAl at h1;simp only[iC,List.any_nil,gC,aY,decide_eq_true_eq]at h1;rcases h1 with h|h|h|h|h|h|h|h|h|h|h|h|h|h
 all_goals(rw[h];decide)
theorem RJ{t:T}(h:eW t=true):gJ t=true:=by unfold gJ;rw[h];rfl
theorem IJ{t:T}(h:eW t=true):t.op=34∨t.op=51∨t.op=52:=by
 unfold eW at h;simp only[aY,aM,decide_eq_true_eq]at h;omega
theorem DY{o a n m:Int}{x:ByteArray}{ks:List T}(ho:(decide (o≠34)&&decide (o≠51)&&decide (o≠52)&&decide (o≠60)&&decide (o≠61)&&decide (o≠37)&&decide (o≠38))=true)(ha:Pl src a):NoP src (T.mk o a n m x ks):=by
 simp only[aM,decide_eq_true_eq]at ho;refine⟨?_,ho.1.2,ho.2,ha⟩;show((decide (o=34)||(decide (o=51)||decide (o=52))&&decide (n=0))||decide (o=60)||decide (o=61))=false
 simp[ho]
section
variable{E:TkE}{s s1:RdS}{n:Nat}{r:RdR}(hE:TOk E src)
include hE
theorem HK{m:T}{boxed:Bool}(hm:Mv E (src.size:Int) s s1)(he:s1.e=0)(hp:Pl src m.at')(hg:eW m=true→Gt src m false)(hc:Cov src m∨gJ m=false∧m.op≠37∧m.op≠38):
 PA E src s (fun t s' =>s' =s1∧Gc src 84 t∧wtT t≤wtT m) (iY E m boxed s1):=by
 unfold iY;rw[if_neg (by rw[he];decide)];split
 ·by_cases h:eW m=true
  ·rw[if_pos h];exact .ret hm fun _=>⟨rfl,⟨hg h,(DC h).1⟩,aP _⟩
  ·rw[if_neg h];exact .bad (hm.yI hE.toEOk fun _=>hp) (nD (by decide))
 ·by_cases h:(xY m).2=0
  ·rw[if_pos h];refine .ret hm fun _=>⟨rfl,?_,aEz m⟩;rcases hc with hc|hc
   ·exact aBs hc h
   ·exact absurd h (aE0 hc.1 hc.2.1 hc.2.2)
  ·rw[if_neg h];exact .bad (hm.yI hE.toEOk fun _=>hp) (nD h)
variable(hr:nB E src n r)
include hr
theorem QZ(b:Bool)(hi:In E src s)(hk:(aJ E s).k≠0)(hn:8*(E.ts.length-s.i)≤n+3):PA E src s (QX src 69 (-20) s) (uS E r b s):=by
 have hl:=hi.lt;unfold uS;dsimp only;obtain⟨s1,e1,m1,i1,t1,o1,-⟩:=aT hE (mv0 hi) hk;rw[e1];split
 ·rename_i h;obtain⟨s2,e2,m2,i2,t2,o2,-⟩:=aT hE m1 (cY h.1);rw[e2];refine(uK hr b (m2.inn hi) (by omega)).bd m2 fun v s3 m3 n3 l3 t3 o3 q3=>.ret m3 fun e=>?_;obtain⟨w,g⟩:=q3 e;refine⟨?_,aH9 (cQ hE s) g⟩;rw[sA _ _ _ _ _ _ (by decide)];omega
 ·split
  ·refine .ret m1 fun e=>⟨?_,aIb (cQ hE s)⟩;rw[mS _ _ _ _ _ (by decide)];omega
  ·refine(uK hr b (m1.inn hi) (by omega)).bd m1 fun v s3 m3 n3 l3 t3 o3 q3=>.ret m3 fun e=>?_;obtain⟨w,g⟩:=q3 e;refine⟨?_,aIa (cQ hE s) g⟩;rw[sA _ _ _ _ _ _ (by decide)];omega
theorem HL(h:isR E s ⟨#[40]⟩=true)(hi:In E src s)(hn:8*(E.ts.length-s.i)≤n+3):s.i+1≤(lG E r s).2.i:=by
 have hl:=hi.lt;unfold lG eP;rw[if_pos h];obtain⟨s1,e1,m1,i1,t1,o1,-⟩:=aT hE (mv0 hi) (cY h);rw[e1,←i1];refine((zW hE hr _ [] s1 (m1.inn hi) (fun e=>by omega) fun _=>k0).bd (Q:=fun _ _=>True) (mv0 (m1.inn hi)) fun x s2 m2 n2 l2 t2 o2 q2=>?_).mv.le;split
 ·exact .ret m2.next fun _=>trivial
 ·exact .failed hE m2
theorem RN(b:Bool)(hi:In E src s)(h:sJ E s=true)(hn:8*(E.ts.length-s.i)≤n+2):PA E src s (QX src 69 (-20) s) (uX E r b s):=by
 have hl:=hi.lt;unfold uX;dsimp only;have a:PA E src s (QX src 80 (-28) s) (if sgn (aJ E s) ⟨#[40]⟩=true then lG E r { s with gen:=false }else(nd 5 (aJ E s).at' [T.mk 34 (aJ E s).at' 0 0 (aJ E s).s []],{ bJ E s with gen:=false }))∧s.i+1≤(if sgn (aJ E s) ⟨#[40]⟩=true then lG E r { s with gen:=false }else(nd 5 (aJ E s).at' [T.mk 34 (aJ E s).at' 0 0 (aJ E s).s []],{ bJ E s with gen:=false })).2.i:=by
  split
  ·rename_i h1;have d:In E src { s with gen:=false }:=⟨hi.lt,hi.la,hi.bg⟩;have c:8*(E.ts.length- ({ s with gen:=false }:RdS).i)≤n+3:=by
    show 8*(E.ts.length-s.i)≤n+3
    omega
   have:=yT hE hr d c;refine⟨⟨(mv0 hi).gn.trans this.mv,fun e=>?_⟩,HL hE hr (s:={ s with gen:=false }) h1 d c⟩;obtain⟨w,g⟩:=this.ok e;refine⟨?_,g⟩;have w' :_+30*(s.i:Int)≤_:=w;omega
  ·rename_i h1;have hf:mL s (aJ E s)=true:=by unfold sJ at h;dsimp only at h;rw[if_neg h1]at h;simp only[aM]at h;exact h.1.1.1
   obtain⟨g1,-⟩:=zY hE s hf;obtain⟨s1,e1,m1,i1,t1,o1,-⟩:=aT hE (mv0 hi) (rI hf);rw[e1];refine⟨.ret m1.gn fun e=>⟨?_,?_⟩,by show s.i+1≤s1.i;omega⟩
   ·rw[sA _ _ _ _ _ _ (by decide),mS _ _ _ _ _ (by decide)];show _≤30*(s1.i:Int)+ -28
    omega
   ·have:=g5 (src:=src) (cQ hE s) (fs:=[T.mk 34 (aJ E s).at' 0 0 (aJ E s).s []]) (zs:=[]) (k1 ⟨g1.1,aC0 g1.2⟩) (.inl rfl);rwa[bP]at this
 generalize (if sgn (aJ E s) ⟨#[40]⟩=true then lG E r { s with gen:=false }else(nd 5 (aJ E s).at' [T.mk 34 (aJ E s).at' 0 0 (aJ E s).s []],{ bJ E s with gen:=false }))=p at a;obtain⟨ps,s1⟩:=p;obtain⟨⟨m1,q1⟩,l1⟩:=a;have m1:Mv E (src.size:Int) s s1:=m1;have l1:s.i+1≤s1.i:=l1;have q1:s1.e=0→QX src 80 (-28) s ps s1:=q1;unfold bd;dsimp only;obtain⟨s2,e2,m2,l2,t2,o2⟩:=bW hE m1 ⟨#[61,62]⟩;rw[e2];split
 ·rename_i h2;refine PA.bd (p:=hH E r s2) (k:=fun x s3=>(T.mk 4 (aJ E s).at' (if x.2=true then 66 else 2) 0 empty [ps,x.1],{ s3 with gen:=s.gen })) (iT hE hr (m2.inn hi) (by omega)) m2 fun x s3 m3 n3 l3 t3 o3 q3=>.ret m3.gn fun e=>?_;obtain⟨w3,g3⟩:=q3 e;have q2:=o2 (o3 e);obtain⟨w1,g1⟩:=q1 q2.1;have hm:∃m:Int,(if x.2=true then(66:Int)else 2)=m∧(m=66∨m=2):=⟨_,rfl,by split;exact .inl rfl;exact .inr rfl⟩;obtain⟨m,em,hm⟩:=hm;rw[em];refine⟨?_,g4b (cQ hE s) (by decide) (VX ?_) (by omega) g1 g3,aFm ?_⟩
  ·rw[uT _ _ _ _ _ _ _ (by decide)];show _≤30*(s3.i:Int)+ -20
   omega
  all_goals rcases hm with rfl|rfl<;>simp
 ·refine PA.bd (p:=r.asg b 0 s2) (k:=fun v s3=>(T.mk 4 (aJ E s).at' 130 0 empty [ps,v],{ s3 with gen:=s.gen })) (uK hr b (m2.inn hi) (by omega)) m2 fun v s3 m3 n3 l3 t3 o3 q3=>.ret m3.gn fun e=>?_;obtain⟨w3,g3⟩:=q3 e;have q2:=o2 (o3 e);obtain⟨w1,g1⟩:=q1 q2.1;refine⟨?_,g4e (cQ hE s) g1 g3⟩;rw[uT _ _ _ _ _ _ _ (by decide)];show _≤30*(s3.i:Int)+ -20
  omega
theorem QG(b:Bool)(hi:In E src s)(hb:s.bg=s.i→s.as' =2→b=false)(hn:8*(E.ts.length-s.i)+4≤n):PA E src s (QC E src s) (zH E r b s):=by
 have hl:=hi.lt;unfold zH;refine(hr.clb b 1 false false s hi hb hn).bd (mv0 hi) fun c s1 m1 n1 l1 t1 o1 q1=>?_;split
 ·rename_i h;obtain⟨w1,g1⟩:=q1 h.1;have gc:Gc src 69 c.1:=by
   rcases g1 with g|⟨-,g⟩|⟨g,-⟩
   ·exact g
   ·have:=pQ (x:=⟨#[63]⟩) (BZ g) (by decide);rw[this]at h;exact absurd h.2 (by decide)
   ·have:=pQ (x:=⟨#[63]⟩) (.inl g) (by decide);rw[this]at h;exact absurd h.2 (by decide)
  have hw:=tF c.1;obtain⟨s2,e2,m2,i2,t2,o2,-⟩:=aT hE m1 (cY h.2);rw[e2];refine(uK hr true (m2.inn hi) (by omega)).bd m2 fun u s3 m3 n3 l3 t3 o3 q3=>?_;obtain⟨s4,e4,m4,l4,t4,o4⟩:=bW hE m3 ⟨#[58]⟩;rw[e4];refine(uK hr b (m4.inn hi) (by omega)).bd m4 fun v s5 m5 n5 l5 t5 o5 q5=>.ret m5 fun e=>?_;obtain⟨w5,g5⟩:=q5 e;have q4:=o4 (o5 e);obtain⟨w3,g3⟩:=q3 q4.1;refine⟨?_,.inl (g47 gc.1.at' gc g3 g5)⟩;rw[WL _ _ _ _ _ _ _ _ (by decide)];omega
 ·exact .ret m1 q1
theorem aAk(b:Bool)(a:Int)(hi:In E src s)(x:a=2→b=false)(hn:8*(E.ts.length-s.i)+4≤n):PA E src s (QA E src a s) (uJ E r b a s):=by
 have hl:=hi.lt;unfold uJ;have q:∃s0:RdS,({ s with bg:=s.i,as' :=a }:RdS)=s0∧s0.i=s.i∧s0.bg=s.i∧s0.as' =a∧Mv E (src.size:Int) s s0:=
  ⟨_,rfl,rfl,rfl,rfl,aP _,hi.lt,fun _=>⟨rfl,rfl⟩,fun h g=>absurd h g,id,fun _=>aP _⟩
 obtain⟨s0,e0,i0,b0,a0,m0⟩:=q;rw[e0];unfold wZ;dsimp only;have j:=m0.inn hi;have hw:∀{t:T} {s' :RdS} {k:Int},QX src 69 k s0 t s' →k≤ -20→QA E src a s t s' :=fun h hk=>⟨by have:=h.1;omega,.inl h.2⟩;split
 ·rename_i h;rw[aM]at h;have:=QZ hE hr b j (tU h.2) (by omega);exact⟨m0.trans this.mv,fun e=>hw (this.ok e) (by omega)⟩
 ·split
  ·rename_i h;have:=RN hE hr b j h (by omega);exact⟨m0.trans this.mv,fun e=>hw (this.ok e) (by omega)⟩
  ·refine(QG hE hr b j (fun _ h=>x (by omega)) (by omega)).bd m0 fun t s1 m1 n1 l1 t1 o1 q1=>?_;split
   ·rename_i h;obtain⟨y,w⟩:=aHp h.2;obtain⟨w1,g1⟩:=q1 h.1;have hp:Pl src t.at' :=by
     rcases g1 with g|⟨g,-⟩|⟨-,g⟩
     ·exact g.1.at'
     ·exact g.2.2.1
     ·exact g.2.2.2
    have hg:eW t=true→Gt src t false:=fun ht=>by
     rcases g1 with g|⟨g,-⟩|⟨-,g⟩
     ·exact g.1
     ·have:=IJ ht;have:=g.2.1;omega
     ·exact absurd ((RJ ht).symm.trans g.1) (by decide)
    have hc:Cov src t∨gJ t=false∧t.op≠37∧t.op≠38:=by
     rcases g1 with g|⟨g,-⟩|⟨-,g⟩
     ·exact .inl g.cov
     ·exact .inl g.1
     ·exact .inr ⟨g.1,g.2.1,g.2.2.1⟩
    have ht:=tF t;by_cases o:(aJ E s1).s=⟨#[61]⟩
    ·rw[if_pos o];refine(HK hE (mv0 (m1.inn hi)) h.1 hp hg hc).bd m1 fun u s2 m2 n2 l2 t2 o2 q2=>?_;by_cases d:s2.e=0
     ·rw[if_pos d];obtain⟨es,gu,wu⟩:=q2 d;obtain⟨s3,e3,m3,i3,t3,o3,-⟩:=aT hE m2 (by rw[es];omega);rw[e3];refine(uK hr b (m3.inn hi) (by omega)).bd m3 fun v s4 m4 n4 l4 t4 o4 q4=>.ret m4 fun e=>?_;obtain⟨w4,g4⟩:=q4 e;rw[o];refine⟨?_,.inl (aId gu.1.at' gu g4)⟩;rw[uT _ _ _ _ _ _ _ (by decide)];omega
     ·rw[if_neg d];exact .bad m2 d
    ·rw[if_neg o];by_cases c:eW t=true
     ·rw[if_pos c];unfold bd;dsimp only;rw[if_pos h.1];obtain⟨s3,e3,m3,i3,t3,o3,-⟩:=aT hE m1 (by omega);rw[e3];refine PA.bd (p:=r.asg b 0 s3) (k:=fun v s3=>(T.mk 46 t.at' 0 0 (aJ E s1).s [t,v],s3)) (uK hr b (m3.inn hi) (by omega)) m3 fun v s4 m4 n4 l4 t4 o4 q4=>.ret m4 fun e=>?_;obtain⟨w4,g4⟩:=q4 e;refine⟨?_,.inl (aIc hp w o ⟨hg c,(DC c).2⟩ g4 (oB hE s1))⟩;rw[uT _ _ _ _ _ _ _ (by decide)];omega
     ·rw[if_neg c];unfold bd;dsimp only;have hb:(iF E t.at' 24 s1).e≠0:=nD (by decide);rw[if_neg hb];exact .bad (m1.yI hE.toEOk fun _=>hp) hb
   ·rename_i h;refine .ret m1 fun e=>?_;obtain⟨w1,g1⟩:=q1 e;have l:¬isR E s1 ⟨#[61]⟩=true:=fun he=>h ⟨e,by
     obtain⟨x1,x2⟩:=mD.1 he;unfold pL;rw[show(aJ E s1).k=5 from x1,show(aJ E s1).s=_ from x2];decide⟩
    refine⟨by omega,?_⟩;rcases g1 with g|⟨g,g2⟩|⟨g,-⟩
    ·exact .inl g
    ·refine .inr ⟨⟨g.1,g.2.1,g.2.2.1,?_⟩,?_⟩
     ·have:=g.2.2.2;rw[i0]at this;exact this
     ·rcases g2 with g2|⟨-,g2,-⟩|⟨-,g2,g3⟩
      ·exact absurd g2 l
      ·exact .inl (by omega)
      ·exact .inr ⟨by omega,g3⟩
    ·exact absurd g l
end
end
section
open Go.RowKit Go.Vcg
variable{src:ByteArray}
abbrev yG(src:ByteArray)(o:Int)(x:ByteArray)(rest:List T):Prop:=(o=51∧rest=[]∧iQ x=true∧x.size≤4000)∨(o=52∧x=empty∧∃k,rest=[k]∧Gc src 69 k)∨(o=49∧x=empty∧∀k∈rest,Gc src 97 k)
theorem aGv{o:Int}{x:ByteArray}{rest:List T}(h:yG src o x rest):o=49∨o=51∨o=52:=by
 rcases h with h|h|h<;>omega
theorem aGw{o a m:Int}{x:ByteArray}{t:T}{rest:List T}(h:yG src o x rest)(ha:Pl src a)(b:isT 69 t=true)(hm:m=0∨m=1):
 eF (T.mk o a m 0 x (t::rest))=true∧mI (T.mk o a m 0 x (t::rest))=true∧Pn src (T.mk o a m 0 x (t::rest))∧iD (T.mk o a m 0 x (t::rest))=true∧isT 69 (T.mk o a m 0 x (t::rest))=true∧∀k∈rest,Gt src k false:=by
 have hn:0≤m∧m≤1:=by omega
 rcases h with⟨rfl,rfl,hf,c⟩|⟨rfl,rfl,k,rfl,hk⟩|⟨rfl,rfl,hk⟩
 ·exact⟨BE (by decide) ha.1 hn (.inl rfl) (by simpa[gD,T.op,T.s]using hf),by rw[vD (t:=T.mk 51 a m 0 x [t]) (s:=⟨#[69]⟩) (show(51:Int)≠19 by decide) (show(51:Int)≠53 by decide) (show(51:Int)≠36 by decide) rfl (by decide)];exact nG b,
   xJ ha.2 (by decide) c (fun h=>absurd h (by decide)) (fun h=>absurd h (by decide)),rfl,pZ rfl,k0⟩
 ·exact⟨BE (by decide) ha.1 hn (.inl rfl) (by simp[gD,T.op,T.s,empty]),by rw[vD (t:=T.mk 52 a m 0 empty [t,k]) (s:=⟨#[69,69]⟩) (show(52:Int)≠19 by decide) (show(52:Int)≠53 by decide) (show(52:Int)≠36 by decide) rfl (by decide)];exact lW (by decide) (by decide) b (nG hk.2),
   xJ ha.2 (by decide) (by decide) (fun h=>absurd h (by decide)) (fun h=>absurd h (by decide)),rfl,pZ rfl,k1 hk.1⟩
 ·exact⟨BE (by decide) ha.1 hn (.inl rfl) (by simp[gD,T.op,T.s,empty]),by rw[vD (t:=T.mk 49 a m 0 empty (t::rest)) (s:=⟨#[69,97,42]⟩) (show(49:Int)≠19 by decide) (show(49:Int)≠53 by decide) (show(49:Int)≠36 by decide) rfl (by decide)];exact lW (by decide) (by decide) b (vC (vQ hk)),
   xJ ha.2 (by decide) (by decide) (fun h=>absurd h (by decide)) (fun h=>absurd h (by decide)),rfl,pZ rfl,vR hk⟩
theorem aGx{o a:Int}{x:ByteArray}{t:T}{rest:List T}(h:yG src o x rest)(ha:Pl src a)(hg:Gc src 69 t):Gc src 69 (T.mk o a 0 0 x (t::rest)):=by
 obtain⟨h1,h2,h3,h4,h5,h6⟩:=aGw (t:=t) (m:=0) h ha hg.2 (.inl rfl);exact⟨.of (t:=T.mk o a 0 0 x (t::rest)) (show o≠53 by have:=aGv h;omega) h1 (fun _=>show(0:Int)≠1 by decide) h2 h3 (k2 hg.1 h6),h5⟩
theorem aGu{o a m:Int}{x:ByteArray}{t:T}{rest:List T}(h:yG src o x rest)(ha:Pl src a)(b:isT 69 t=true)(hm:m=0∨m=1)(hg:Gt src t (iD t)):Gt src (T.mk o a m 0 x (t::rest)) true∧iD (T.mk o a m 0 x (t::rest))=true:=by
 obtain⟨h1,h2,h3,h4,h5,h6⟩:=aGw (t:=t) h ha b hm;refine⟨.mk h1 (fun h=>by simp at h) h2 h3 fun i k hi=>?_,h4⟩;have c:o≠53:=by have:=aGv h;omega
 have hr:pE (T.mk o a m 0 x (t::rest)) i k true=(decide (i=0)&&iD k):=by
  unfold pE;rw[h4];show(decide (i=0)&&(decide (o=53)||true&&(true&&iD k)))=_
  rw[decide_eq_false c];simp
 rw[hr];cases i with
 | zero=>
   have:k=t:=by have d:some t=some k:=hi;cases d;rfl
   subst this;simpa using hg
 | succ i=>
   have d:rest[i]? =some k:=hi;simp only[show¬i+1=0 by omega,decide_false,gP];exact h6 k (aZ d)
abbrev ChR(src:ByteArray)(o:Bool)(t:T):Prop:=(o=false∧Gc src 69 t)∨(o=true∧Gt src t true∧iD t=true∧mR t)
theorem aE8{t:T}(h:iD t=true):isT 69 t=true:=by
 unfold iD at h;simp only[aY,decide_eq_true_eq]at h;rw[EI];unfold iX;rw[if_neg (by omega)];simp only[aY,aM,decide_eq_true_eq];omega
theorem ChR.e{o:Bool}{t:T}(h:ChR src o t):isT 69 t=true∧Pl src t.at' ∧Gt src t (iD t):=by
 rcases h with⟨-,h⟩|⟨-,h,hl,-⟩
 ·refine⟨h.2,h.1.at',?_⟩;cases iD t with
  |false=>exact h.1
  |true=>exact h.1.up
 ·exact⟨aE8 hl,h.at',by rw[hl];exact h⟩
theorem JV{o:Int}{ob:Bool}{x:ByteArray}{t:T}{rest:List T}(h:yG src o x rest)(hc:ChR src ob t):ChR src ob (T.mk o t.at' 0 0 x (t::rest)):=by
 obtain⟨h1,h2,h3⟩:=hc.e;rcases hc with⟨e,hc⟩|⟨e,-,-,a⟩
 ·exact .inl ⟨e,aGx h h2 hc⟩
 ·obtain⟨g1,g2⟩:=aGu h h2 h1 (.inl rfl) h3;exact .inr ⟨e,g1,g2,.more g2 rfl a⟩
theorem aFv{o:Int}{ob:Bool}{x:ByteArray}{t:T}{rest:List T}(h:yG src o x rest)(hc:ChR src ob t):ChR src true (GP (T.mk o t.at' 0 0 x (t::rest))):=by
 obtain⟨h1,h2,h3⟩:=hc.e;obtain⟨g1,g2⟩:=aGu (m:=1) h h2 h1 (.inr rfl) h3;exact .inr ⟨rfl,g1,g2,.one g2 rfl⟩
theorem g53{a:Int}{t:T}(ha:Pl src a)(hg:Gt src t true)(hl:iD t=true)(hc:mR t):Gc src 69 (nd 53 a [t]):=by
 refine⟨.mk (t:=nd 53 a [t]) (BE (by decide) ha.1 (by decide) (.inl rfl) (by simp[gD,T.op,T.s,empty])) (fun h=>by simp[iD,T.op]at h) ?_ (xJ ha.2 (by decide) (by decide) (fun h=>absurd h (by decide)) (fun h=>absurd h (by decide))) fun i k hi=>?_,pZ rfl⟩
 ·unfold mI pH pV;rw[if_neg (show¬(nd 53 a [t]).op=36 from show¬(53:Int)=36 by decide),if_neg (show¬(nd 53 a [t]).op=19 from show¬(53:Int)=19 by decide),if_pos (show(nd 53 a [t]).op=53 from rfl)];have hr:gQ (bl ⟨#[99]⟩) (nd 53 a [t]).kids=true:=nG (by show isT 99 t=true;rw[aH4];exact hl);have hk:eQ (nd 53 a [t])=⟨#[99]⟩:=rfl;rw[hk,hr];show(decide _&&true&&(true&&chB t))=true
  rw[TS hc];decide
 ·cases i with
  | zero=>
    have b:some t=some k:=hi;cases b;have:pE (nd 53 a [t]) 0 t false=true:=by unfold pE;rfl
    rw[this];exact hg
  |succ i=>cases hi
section
variable{E:TkE}{s:RdS}{n:Nat}{r:RdR}(hE:TOk E src)
theorem aEt{b:Bool}(h:eI E b s≠0):eI E b s=vF (aJ E s).s:=by
 unfold eI at h⊢;split at h
 ·exact absurd rfl h
 ·rename_i g;rw[if_neg g]
include hE
variable(hr:nB E src n r)
include hr
theorem NK(b:Bool)(least:Int){s0:RdS}(c:s0.bg=s0.i→s0.as' =2→b=false):∀(f:Nat) (t:T) (no lg:Bool) (s:RdS),In E src s→8*(E.ts.length-s.i)≤n+4→(s.e=0→QC E src s0 t s)→
 PA E src s (fun x s' =>QC E src s0 x.1 s') (uI E r b least f t no lg s)
 |0,t,no,lg,s,hi,hn,d=>.ret (mv0 hi) d
 | f + 1, t,no,lg,s,hi,hn,d=>by
   have hl:=hi.lt;rw[uI];split
   ·rename_i h;exact .bad (mv0 hi) h
   ·rename_i he;have o:s.e=0:=Decidable.not_not.1 he;split
    ·exact .ret (mv0 hi) d
    ·rename_i k;split
     ·exact .failed hE (mv0 hi)
     ·have a:eI E b s≠0:=fun h=>k (.inr h);have q:=d o;have gc:Gc src 69 t:=by
       rcases q.2 with g|⟨-,g⟩|⟨g,-⟩
       ·exact g
       ·exact absurd (KP (BZ g) (WY g c)) a
       ·exact absurd (KP (.inl g) fun h=>absurd ((eq_not g).2.symm.trans h) (by decide)) a
      have p:=hi.bg;obtain⟨s1,e1,m1,i1,t1,o1,b1⟩:=aT hE (mv0 hi) (XQ a)
      rw[e1];refine(hr.clb b _ _ _ s1 (m1.inn hi) (fun h=>by omega) (by omega)).bd m1 fun x s2 m2 n2 l2 t2 o2 q2=>?_;have h3:=NK b least c f (T.mk (if eI E b s≤3 then 45 else 44) t.at' 0 0 (aJ E s).s [t,x.1]) x.2.1 x.2.2 s2 (m2.inn hi) (by omega) fun e=>by
       obtain⟨w2,g2⟩:=q2 e;have l:=aEt a;refine⟨?_,?_⟩
       ·rw[uT _ _ _ _ _ _ _ (by split<;>decide)];have:=q.1;omega
       ·have j:Gc src 69 x.1∨isR E s2 ⟨#[61]⟩=true:=by
         rcases g2 with g|⟨-,g|⟨g,-⟩|⟨g,-⟩⟩|⟨g,-⟩
         ·exact .inl g
         ·exact .inr g
         ·omega
         ·omega
         ·exact .inr g
        rcases j with g|g
        ·left;rcases aEs (aJ E s).s with u|⟨h1,h2⟩|⟨h1,h2⟩
         ·exact absurd (l.trans u) a
         ·rw[if_pos (by omega)];exact g45 gc.1.at' h2 gc g (oB hE s)
         ·rw[if_neg (by omega)];exact g44 gc.1.at' h2 gc g (oB hE s)
        ·right;right;refine⟨g,?_⟩;split
         ·exact DY (by decide) gc.1.at'
         ·exact DY (by decide) gc.1.at'
      exact⟨m2.trans h3.mv,h3.ok⟩
theorem aCx(b:Bool)(least:Int)(no lg:Bool)(hi:In E src s)(hb:s.bg=s.i→s.as' =2→b=false)(hn:8*(E.ts.length-s.i)+3≤n):PA E src s (fun x s' =>QC E src s x.1 s') (AJ E r b least no lg s):=by
 have hl:=hi.lt;unfold AJ;refine(hr.una s hi hn).bd (mv0 hi) fun t s1 m1 n1 l1 t1 o1 q1=>?_;have:=NK hE hr b least hb (E.ts.length+1) t no lg s1 (m1.inn hi) (by omega) q1;exact⟨m1.trans this.mv,this.ok⟩
abbrev QL(src:ByteArray)(t:T)(s:RdS)(t' :T)(s' :RdS):Prop:=∃o x rest,t' =T.mk o t.at' 0 0 x (t::rest)∧yG src o x rest∧(wtT t' :Int)+30*s.i≤30*s'.i+wtT t-20
omit hr in
theorem wT(t:T)(hi:In E src s):PA E src s (QL src t s) (mJ E t s):=by
 unfold mJ;split
 ·rename_i h;obtain⟨s1,e1,m1,i1,t1,o1,-⟩:=aT hE (mv0 hi) (by omega);rw[e1];refine .ret m1 fun e=>⟨51,(aJ E s).s,[],rfl,.inl ⟨rfl,rfl,hE.fm _ h,oB hE s⟩,?_⟩;rw[sA _ _ _ _ _ _ (by decide)];omega
 ·exact .failed hE (mv0 hi)
theorem qB(t:T)(hi:In E src s)(hk:(aJ E s).k≠0)(hn:8*(E.ts.length-s.i)≤n+3):PA E src s (QL src t s) (nX E r t s):=by
 have hl:=hi.lt;unfold nX;obtain⟨s1,e1,m1,i1,t1,o1,-⟩:=aT hE (mv0 hi) hk;rw[e1];refine(iS hE hr true (m1.inn hi) (by omega)).bd m1 fun k s2 m2 n2 l2 t2 o2 q2=>?_;obtain⟨s3,e3,m3,l3,t3,o3⟩:=bW hE m2 ⟨#[93]⟩;rw[e3];refine .ret m3 fun e=>?_;have q3:=o3 e;obtain⟨w,g⟩:=q2 q3.1;refine⟨52,empty,[k],rfl,.inr (.inl ⟨rfl,rfl,k,rfl,g⟩),?_⟩;rw[uT _ _ _ _ _ _ _ (by decide)];omega
theorem TX:∀(f:Nat) (acc:List T) (s:RdS),In E src s→(s.e=0→8*(E.ts.length-s.i)+5≤n)→(s.e=0→∀t∈acc,Gc src 97 t)→
 PA E src s (fun l s' =>(wtL l:Int)+30*s.i≤30*s'.i+wtL acc∧∀t∈l,Gc src 97 t) (wH E r f acc s)
 |0,acc,s,hi,hn,ha=>.ret (mv0 hi) fun e=>⟨by omega,ha e⟩
 | f +1,acc,s,hi,hn,ha=>by
   have hl:=hi.lt;rw[wH];split
   ·rename_i h;have b:=hn h.1;have h1:PA E src s (fun v s' =>(wtT v:Int)+30*s.i≤30*s'.i-20∧Gc src 97 v) (if isR E s ⟨#[46,46,46]⟩=true then bd (r.asg true 0 (bJ E s)) fun v s1=>(nd 41 (aJ E s).at' [v],s1)else r.asg true 0 s):=by
     split
     ·rename_i h1;obtain⟨s1,e1,m1,i1,t1,o1,-⟩:=aT hE (mv0 hi) (cY h1);rw[e1];refine(uK hr true (m1.inn hi) (by omega)).bd m1 fun v s2 m2 n2 l2 t2 o2 q2=>.ret m2 fun e=>?_;obtain⟨w,g⟩:=q2 e;refine⟨?_,(g41 (cQ hE s) g).1,(g41 (cQ hE s) g).2.2⟩;rw[sA _ _ _ _ _ _ (by decide)];omega
     ·exact(uK hr true hi (by omega)).imp fun a s' h=>⟨by have:=h.1;omega,h.2.1,aI5 h.2.2⟩
    refine h1.bd (mv0 hi) fun v s1 m1 n1 l1 t1 o1 q1=>?_;split
    ·rename_i h2;obtain⟨s2,e2,m2,i2,t2,o2,-⟩:=aT hE m1 (cY h2);rw[e2];have h3:=TX f (acc++[v]) s2 (m2.inn hi) (fun e=>by omega) fun e=>k3 (ha h.1) (k1 (q1 (by omega)).2);refine⟨m2.trans h3.mv,fun e=>?_⟩;obtain⟨w3,g3⟩:=h3.ok e;have q:=(q1 (by have:=h3.mv.ok e;omega)).1;rw[mH]at w3;exact⟨by omega,g3⟩
    ·refine .ret m1 fun e=>?_;obtain⟨w,g⟩:=q1 e;refine⟨?_,k3 (ha h.1) (k1 g)⟩;rw[mH];omega
   ·exact .ret (mv0 hi) fun e=>⟨by omega,ha e⟩
theorem FQ(hi:In E src s)(hn:8*(E.ts.length-s.i)≤n+3):PA E src s (fun l s' =>(wtL l:Int)+30*s.i≤30*s'.i-60∧∀t∈l,Gc src 97 t) (tD E r s):=by
 have hl:=hi.lt;unfold tD;obtain⟨s1,e1,m1,l1,t1,o1⟩:=bW hE (mv0 hi) ⟨#[40]⟩;rw[e1];refine(TX hE hr _ [] s1 (m1.inn hi) (fun e=>by have:=o1 e;omega) fun _=>k0).bd m1 fun x s2 m2 n2 l2 t2 o2 q2=>?_;obtain⟨s3,e3,m3,l3,t3,o3⟩:=bW hE m2 ⟨#[41]⟩;rw[e3];refine .ret m3 fun e=>?_;obtain⟨e2,i3,-⟩:=o3 e;obtain⟨w,g⟩:=q2 e2;have:=o1 (o2 e2);rw[show wtL ([]:List T)=0 from rfl]at w;exact⟨by omega,g⟩
theorem AK(t:T)(hi:In E src s)(hn:8*(E.ts.length-s.i)≤n+3):PA E src s (QL src t s) (wD E r t s):=by
 unfold wD;refine(FQ hE hr hi hn).bd (mv0 hi) fun l s1 m1 n1 l1 t1 o1 q1=>.ret m1 fun e=>?_;obtain⟨w,g⟩:=q1 e;refine⟨49,empty,l,rfl,.inr (.inr ⟨rfl,rfl,g⟩),?_⟩;rw[xA _ _ _ _ _ _ (by decide),show wtL (t::l)=wtT t+wtL l from cX t l];omega
abbrev TP(src:ByteArray)(l:List T):Prop:=DF iX l∧∀k∈l,Gt src k false
omit hE hr in
theorem aD6{l:List T}{e x:T}(h:TP src l)(he:Gc src 69 e)(b:Gt src x false∧x.op=31):TP src (l++[e,x]):=by
 obtain⟨⟨h1,h2⟩,h3⟩:=h;refine⟨⟨by simp;omega,fun i t hi=>?_⟩,k3 h3 (k2 he.1 (k1 b.1))⟩;by_cases a:i<l.length
 ·rw[bY a]at hi;exact h2 i t hi
 ·rw[bQ (by omega)]at hi;unfold NZ;rcases(by omega:i-l.length=0∨i-l.length=1∨2≤i-l.length)with h|h|h
  ·rw[h]at hi;cases hi;rw[if_neg (by omega)];have:=he.2;rwa[EI]at this
  ·rw[h]at hi;cases hi;rw[if_pos (by omega)];exact b.2
  ·rw[dQ (by simpa using h)]at hi;cases hi
theorem AT:∀(f:Nat) (o:Bool) (acc:List T) (s:RdS),In E src s→8*(E.ts.length-s.i)+5≤n→(s.e=0→TP src acc)→
 PA E src s (fun l s' =>(wtL l:Int)+30*s.i≤30*s'.i+wtL acc∧TP src l) (mN E r f o acc s)
 |0,o,acc,s,hi,hn,ha=>.ret (mv0 hi) fun e=>⟨by omega,ha e⟩
 | f +1,o,acc,s,hi,hn,ha=>by
   have hl:=hi.lt;rw[mN];split
   ·rename_i h;refine(iS hE hr true hi hn).bd (mv0 hi) fun e s1 m1 n1 l1 t1 o1 q1=>?_;dsimp only;split
    ·rename_i h2;obtain⟨s2,e2,m2,i2,t2,o2,-⟩:=aT hE m1 (by omega);rw[e2];have h3:=AT f (aJ E s1).op (acc++[e,T.mk 31 (aJ E s1).at' 0 0 (aJ E s1).s []]) s2 (m2.inn hi) (by omega) fun ee=>aD6 (ha h.1) (q1 (by omega)).2 ⟨(zO hE s1).1,rfl⟩;refine⟨m2.trans h3.mv,fun ee=>?_⟩;obtain⟨w3,g3⟩:=h3.ok ee;have q:=(q1 (by have:=h3.mv.ok ee;omega)).1;rw[show wtL (acc++[e,T.mk 31 (aJ E s1).at' 0 0 (aJ E s1).s []])=wtL acc+ (wtT e+1)by rw[wtL,zK,cX,cX,jL,mS _ _ _ _ _ (by decide)]]at w3;exact⟨by omega,g3⟩
    ·exact .failed hE m1
   ·exact .ret (mv0 hi) fun e=>⟨by omega,ha e⟩
theorem DE(hi:In E src s)(hk:(aJ E s).k≠0)(hn:8*(E.ts.length-s.i)≤n+3):PA E src s (QX src 69 (-25) s) (nK E r s):=by
 have hl:=hi.lt;unfold nK;obtain⟨s1,e1,m1,i1,t1,o1,-⟩:=aT hE (mv0 hi) hk;dsimp only;rw[e1];refine(AT hE hr _ _ _ s1 (m1.inn hi) (by omega) fun _=>⟨⟨rfl,fun i t hi=>?_⟩,k1 (zO hE s).1⟩).bd m1 fun l s2 m2 n2 l2 t2 o2 q2=>.ret m2 fun e=>?_
 ·cases i with
  |zero=>cases hi;exact rfl
  |succ i=>cases hi
 ·obtain⟨w,g1,g2⟩:=q2 e;refine⟨?_,g36 (cQ hE s) g1 g2⟩;rw[xA _ _ _ _ _ _ (by decide)];rw[wtL,wtL,cX,jL,mS _ _ _ _ _ (by decide)]at w;simp only[wtL];omega
end
end
section
open Go.RowKit Go.Vcg
variable{src:ByteArray}
abbrev QP(E:TkE)(src:ByteArray)(s:RdS)(t:T)(s' :RdS):Prop:=(wtT t:Int)+30*s.i≤30*s'.i-25∧(Gc src 69 t∨Lit src s t s' ∧StR E s s' ∨isR E s' ⟨#[61]⟩=true∧NoP src t)
theorem aCy{t:T}(h:Gc src 69 t):CI src t:=by
 have a:=h.2;rw[EI]at a;refine .inr (.inr ⟨fun e=>?_,fun e=>?_,h.cov⟩);all_goals
  unfold iX at a;rw[if_neg (by omega)]at a;simp[e]at a
theorem aCw{t:T}(h:Gc src 82 t):CP' src t:=by
 have a:=h.2;rw[YZ,decide_eq_true_eq]at a;exact SF h.1 a fun k _ h1 h2=>Gc.cov ⟨h1,h2⟩
theorem aDv{o a n m:Int}{x:ByteArray}{ks:List T}(ho:o=39)(ha:Pl src a)(hn:n≠0∧n≠3∧n≠4):CP' src (T.mk o a n m x ks):=
 ⟨ho,ha,fun h=>absurd h hn.2.2,fun h=>absurd h hn.2.1,fun h=>absurd h hn.2.1,fun h=>absurd h hn.1⟩
section
variable{E:TkE}{s:RdS}{n:Nat}{r:RdR}(hE:TOk E src)
theorem CR{k:Nat}{s:RdS}(hi:In E src s):lR k s≤(src.size:Int):=by
 unfold lR;split
 ·exact hi.la.2
 ·omega
include hE
variable(hr:nB E src n r)
include hr
theorem BJ:∀(f:Nat) (p:Int) (acc:List T) (s:RdS),In E src s→8*(E.ts.length-s.i)+5≤n→E.ts.length-s.i≤f→(s.e=0→p≤(src.size:Int)∧(p<0→∀t∈acc,Gc src 69 t))→
 PA E src s (fun x s' =>(wtL x.2:Int)+30*s.i≤30*s'.i+wtL acc-20∧x.1≤(src.size:Int)∧(x.1<0→∀t∈x.2,Gc src 69 t)∧∃u m,x.2=acc++u::m) (oT E r f p acc s)
 |0,p,acc,s,hi,hn,hf,ha=>by have:=hi.lt;omega
 | f +1,p,acc,s,hi,hn,hf,ha=>by
   have hl:=hi.lt;rw[oT];refine(hr.asg true 1 s hi (fun h=>absurd h (by decide)) hn).bd (mv0 hi) fun v s1 m1 n1 l1 t1 o1 q1=>?_;dsimp only;have b:=m1.inn hi;have hp:s1.e=0→(if p<0 then lR s.i s1 else p)≤(src.size:Int)∧((if p<0 then lR s.i s1 else p)<0→∀t∈acc++[v],Gc src 69 t):=fun e=>by
    obtain⟨p1,p2⟩:=ha (o1 e);split
    ·rename_i a;refine⟨CR b,fun c=>k3 (p2 a) (k1 ?_)⟩;rcases(q1 e).2 with g|⟨g,-⟩
     ·exact g
     ·have:=g.2.2.2;omega
    ·exact⟨p1,fun h=>by omega⟩
   split
   ·rename_i h;obtain⟨w1,-⟩:=q1 h.1;have hv:=tF v;obtain⟨s2,e2,m2,i2,t2,o2,-⟩:=aT hE m1 (cY h.2);rw[e2];have h3:=BJ f _ (acc++[v]) s2 (m2.inn hi) (by omega) (by omega) fun e=>hp (by omega);refine⟨m2.trans h3.mv,fun e=>?_⟩;obtain⟨w3,g3,g4,u,m,g5⟩:=h3.ok e;rw[mH]at w3;refine⟨by omega,g3,g4,v,u::m,by rw[g5,bR];rfl⟩
   ·refine .ret m1 fun e=>?_;have h:=hp e;refine⟨?_,h.1,h.2,v,[],rfl⟩;have:=(q1 e).1;dsimp only;rw[mH];omega
theorem FL(hi:In E src s)(hk:(aJ E s).k≠0)(hn:8*(E.ts.length-s.i)≤n+3):PA E src s (QX src 69 (-25) s) (nO E r s):=by
 have hl:=hi.lt;unfold nO;obtain⟨s1,e1,m1,i1,t1,o1,-⟩:=aT hE (mv0 hi) hk;dsimp only;rw[e1];split
 ·exact .failed hE m1.next
 ·refine(BJ hE hr _ (-1) [] s1 (m1.inn hi) (by omega) (by omega) fun _=>⟨by omega,fun _=>k0⟩).bd m1 fun x s2 m2 n2 l2 t2 o2 q2=>?_;obtain⟨s3,e3,m3,l3,t3,o3⟩:=bW hE m2 ⟨#[41]⟩;rw[e3];by_cases a:0≤x.1
  ·rw[if_pos a];exact .bad (m3.yI hE.toEOk fun e=>⟨a,(q2 (o3 e).1).2.1⟩) (nD (by decide))
  ·rw[if_neg a];refine .ret m3 fun e=>?_;have q3:=o3 e;obtain⟨w,-,g,u,m,hm⟩:=q2 q3.1;have g:=g (by omega);rw[hm,jK]at g w⊢;rw[show wtL ([]:List T)=0 from rfl]at w;cases m with
   | nil=>
     refine⟨?_,g u (by simp)⟩;rw[wtL,cX,jL]at w;dsimp only;omega
   | cons y m=>
     refine⟨?_,g48 (g u (by simp)).1.at' (g u (by simp)) (g y (by simp)) fun k hk=>g k (by simp[hk])⟩;dsimp only;rw[xA _ _ _ _ _ _ (by decide)];omega
theorem FP:∀(f:Nat) (p:Int) (acc:List T) (s:RdS),In E src s→(s.e=0→8*(E.ts.length-s.i)+5≤n)→(s.e=0→p≤(src.size:Int)∧(∀t∈acc,CI src t)∧(p<0→∀t∈acc,Gc src 65 t))→
 PA E src s (fun x s' =>(wtL x.2:Int)+30*s.i≤30*s'.i+wtL acc∧x.1≤(src.size:Int)∧(∀t∈x.2,CI src t)∧(x.1<0→∀t∈x.2,Gc src 65 t)) (sL E r f p acc s)
 |0,p,acc,s,hi,hn,ha=>.ret (mv0 hi) fun e=>⟨by dsimp only;omega,ha e⟩
 | f + 1,p,acc,s,hi,hn,ha=>by
   have hl:=hi.lt;rw[sL];split
   ·rename_i h;have l:=hn h.1;obtain⟨a1,a2,a3⟩:=ha h.1;split
    ·rename_i h1;obtain⟨s1,e1,m1,i1,t1,o1,-⟩:=aT hE (mv0 hi) (cY h1);rw[e1];have g:=(g40 (src:=src) (cQ hE s)).1;have h3:=FP f p (acc++[nd 40 (aJ E s).at' []]) s1 (m1.inn hi) (fun e=>by omega) fun e=>⟨a1,k3 a2 (k1 (.inl ⟨rfl,g.1⟩)),fun hp=>k3 (a3 hp) (k1 g)⟩;refine⟨m1.trans h3.mv,fun e=>?_⟩;obtain⟨w3,g3⟩:=h3.ok e;rw[mH,mS _ _ _ _ _ (by decide)]at w3;exact⟨by omega,g3⟩
    ·dsimp only;have d:∃s1,cH E ⟨#[46,46,46]⟩ s=s1∧Mv E (src.size:Int) s s1∧s1.i<E.ts.length∧(isR E s ⟨#[46,46,46]⟩=true→s1.i=s.i+1)∧(isR E s ⟨#[46,46,46]⟩=false→s1.i=s.i):=by
      refine⟨_,rfl,(mv0 hi).eat,(mv0 hi).eat.lt,fun h=>?_,fun h=>?_⟩
      ·unfold cH;rw[if_pos h,PG hE.toEOk (cY h)]
      ·unfold cH;rw[if_neg (by rw[h];decide)]
     obtain⟨s1,e1,m1,t1,i1,j1⟩:=d
     rw[e1];have o:=m1.le;refine(hr.asg true 1 s1 (m1.inn hi) (fun h=>absurd h (by decide)) (by omega)).bd m1 fun v s2 m2 n2 l2 t2 o2 q2=>?_;have j:=m2.inn hi;have hv:s2.e=0→CI src (if isR E s ⟨#[46,46,46]⟩=true then nd 41 (aJ E s).at' [v]else v)∧((if p<0 then lR s1.i s2 else p)<0→Gc src 65 (if isR E s ⟨#[46,46,46]⟩=true then nd 41 (aJ E s).at' [v]else v))∧(wtT (if isR E s ⟨#[46,46,46]⟩=true then nd 41 (aJ E s).at' [v]else v):Int)+30*s.i≤30*s2.i-20:=fun e=>by
      obtain⟨w2,g2⟩:=q2 e;have k:Cov src v:=by
       rcases g2 with g|⟨g,-⟩
       ·exact g.cov
       ·exact g.1
      have b:(if p<0 then lR s1.i s2 else p)<0→Gc src 69 v:=fun a=>by
       rcases g2 with g|⟨g,-⟩
       ·exact g
       ·have:=g.2.2.2;split at a<;>omega
      cases c:isR E s ⟨#[46,46,46]⟩with
      | true=>
        rw[if_pos rfl];refine⟨.inr (.inl ⟨v,rfl,rfl,cQ hE s,k⟩),fun a=>⟨(g41 (cQ hE s) (b a)).1,(g41 (cQ hE s) (b a)).2.1⟩,?_⟩;rw[sA _ _ _ _ _ _ (by decide)];have:=i1 c;omega
      | false=>
        rw[if_neg (by decide)];refine⟨?_,fun a=>⟨(b a).1,aI7 (b a).2⟩,by omega⟩;rcases g2 with g|⟨g,-⟩
        ·exact aCy g
        ·exact .inr (.inr ⟨by have:=g.2.1;omega,by have:=g.2.1;omega,g.1⟩)
     have hp:s2.e=0→(if p<0 then lR s1.i s2 else p)≤(src.size:Int)∧(∀t∈acc++[if isR E s ⟨#[46,46,46]⟩=true then nd 41 (aJ E s).at' [v]else v],CI src t)∧((if p<0 then lR s1.i s2 else p)<0→∀t∈acc++[if isR E s ⟨#[46,46,46]⟩=true then nd 41 (aJ E s).at' [v]else v],Gc src 65 t):=fun e=>by refine⟨by split;exact CR j;exact a1,k3 a2 (k1 (hv e).1),fun a=>k3 (a3 ?_) (k1 ((hv e).2.1 a))⟩;split at a<;>omega
     split
     ·rename_i h2;obtain⟨s3,e3,m3,i3,t3,o3,-⟩:=aT hE m2 (cY h2);rw[e3];have h4:=FP f (if p<0 then lR s1.i s2 else p) (acc++[if isR E s ⟨#[46,46,46]⟩=true then nd 41 (aJ E s).at' [v]else v]) s3 (m3.inn hi) (fun e=>by omega) fun e=>hp (by omega);refine⟨m3.trans h4.mv,fun e=>?_⟩;obtain⟨w4,g4⟩:=h4.ok e;have:=(hv (by have:=h4.mv.ok e;omega)).2.2;rw[mH]at w4;exact⟨by omega,g4⟩
     ·refine .ret m2 fun e=>⟨?_,hp e⟩;have:=(hv e).2.2;dsimp only;rw[mH];omega
   ·exact .ret (mv0 hi) fun e=>⟨by dsimp only;omega,ha e⟩
theorem KA(hi:In E src s)(hk:(aJ E s).k≠0)(hn:8*(E.ts.length-s.i)≤n+3):PA E src s (fun x s' =>(wtT x.1:Int)+30*s.i≤30*s'.i-25∧x.2≤(src.size:Int)∧Cov src x.1∧(x.1.op=37∨x.1.op=38)∧Pl src x.1.at' ∧(x.2<0→Gc src 69 x.1)) (sK E r s):=by
 have hl:=hi.lt;unfold sK;obtain⟨s1,e1,m1,i1,t1,o1,-⟩:=aT hE (mv0 hi) hk;rw[e1];refine(FP hE hr _ (-1) [] s1 (m1.inn hi) (fun e=>by omega) fun _=>⟨by omega,k0,fun _=>k0⟩).bd m1 fun x s2 m2 n2 l2 t2 o2 q2=>?_;obtain⟨s3,e3,m3,l3,t3,o3⟩:=bW hE m2 ⟨#[93]⟩;rw[e3];refine .ret m3 fun e=>?_;have q3:=o3 e;obtain⟨w,g1,g2,g3⟩:=q2 q3.1;refine⟨?_,g1,TW (t:=nd 37 (aJ E s).at' x.2) rfl (cQ hE s) g2,.inl rfl,cQ hE s,fun h=>g37 (cQ hE s) (g3 h)⟩;dsimp only;rw[xA _ _ _ _ _ _ (by decide)];rw[show wtL ([]:List T)=0 from rfl]at w;omega
theorem aAj(a:Int)(c:Bool)(k:T)(bits:Int)(ha:Pl src a)(hb:bits=8∨bits=12)(hi:In E src s)(hn:8*(E.ts.length-s.i)≤n+2)(hk:s.e=0→Ky src (if c=true then 1 else 0) k):
 PA E src s (fun t s' =>(wtT t:Int)+30*s.i≤30*s'.i+wtT k-40∧Gc src 82 t∧CP' src t) (oL E r a c k bits s):=by
 unfold oL;refine(mT hE hr a bits empty hi hn).bd (mv0 hi) fun f s1 m1 n1 l1 t1 o1 q1=>.ret m1 fun e=>?_;obtain⟨p,b,m,rfl,hm,gp,gb,w⟩:=q1 e;have d:m=8∨m=72∨m=12∨m=76:=by rcases hb with rfl|rfl<;>rcases hm with rfl|rfl<;>decide
 have hf:Gc src 109 (T.mk 4 a m 0 empty [p,b]):=⟨g4b ha (by decide) (VX (by simp only[aV,bX,or_false];omega)) (by omega) gp gb,aIk (by simp only[aV,bX,or_false];omega)⟩;refine⟨?_,aCk ha 109 (.inr (.inr (.inr ⟨rfl,rfl⟩))) (hk (o1 e)) hf,aDv rfl ha (by decide)⟩;rw[kE,if_pos rfl,cX,cX,jL];omega
theorem FT(a:Int)(get:Bool)(ha:Pl src a)(hi:In E src s)(hn:8*(E.ts.length-s.i)+5≤n):
 PA E src s (fun t s' =>(wtT t:Int)+30*s.i≤30*s'.i-40∧Gc src 82 t∧CP' src t) (nP E r a get s):=by
 have hl:=hi.lt;unfold nP;refine(xL hE hr hi (by omega)).bd (mv0 hi) fun k s1 m1 n1 l1 t1 o1 q1=>?_;dsimp only;have b:∃s2:RdS,({ s1 with gen:=false }:RdS)=s2∧s2.i=s1.i∧s2.e=s1.e∧Mv E (src.size:Int) s s2:=⟨_,rfl,rfl,rfl,m1.gn⟩;obtain⟨s2,e2,i2,ee2,m2⟩:=b;rw[e2];obtain⟨s3,e3,m3,l3,t3,o3⟩:=bW hE m2 ⟨#[40]⟩;rw[e3];have c:PA E src s3 (fun l s' =>(wtL l:Int)+30*s3.i≤30*s'.i∧(get=true→l=[])∧(get=false→∃t,l=[t]∧Gc src 70 t)) (if get=true then([],s3)else bd (jJ E r s3) fun t s3=>([t],s3)):=by
  cases get
  ·rw[if_neg (by decide)];refine(mP hE hr (m3.inn hi) (by omega)).bd (mv0 (m3.inn hi)) fun t s4 m4 n4 l4 t4 o4 q4=>.ret m4 fun e=>?_;obtain⟨w,g⟩:=q4 e;refine⟨?_,fun h=>(by cases h),fun _=>⟨t,rfl,g⟩⟩;rw[wtL,cX,jL];omega
  ·rw[if_pos rfl];exact .ret (mv0 (m3.inn hi)) fun e=>⟨by rw[show wtL ([]:List T)=0 from rfl];omega,fun _=>rfl,fun h=>(by cases h)⟩
 refine c.bd m3 fun ps s4 m4 n4 l4 t4 o4 q4=>?_;obtain⟨s5,e5,m5,l5,t5,o5⟩:=bW hE m4 ⟨#[41]⟩;rw[e5];refine(iT hE hr (m5.inn hi) (by omega)).bd m5 fun x s6 m6 n6 l6 t6 o6 q6=>.ret m6.gn fun e=>?_;obtain⟨w6,g6⟩:=q6 e;have q5:=o5 (o6 e);obtain⟨w4,g4,g4'⟩:=q4 q5.1;have q3:=o3 (o4 q5.1);obtain⟨w1,g1⟩:=q1 (by omega);have hp:Gc src 80 (nd 5 (aJ E s2).at' ps):=by
  have h:=g5 (src:=src) (cQ hE s2) (fs:=ps) (zs:=[]) (by
   cases get
   ·obtain⟨t,rfl,h⟩:=g4' rfl;exact k1 h
   ·rw[g4 rfl];exact k0) (.inl rfl)
  rwa[bP]at h
 have hw:(wtT (T.mk 39 a (if get=true then 1 else 2) (if k.2=true then 1 else 0) empty [k.1,T.mk 4 a ((if get=true then 16 else 32)+if x.2=true then 64 else 0) 0 empty [nd 5 (aJ E s2).at' ps,x.1]]):Int)=5+wtT k.1+wtL ps+wtT x.1:=by rw[kE,if_pos rfl,cX,cX,jL,uT _ _ _ _ _ _ _ (by decide),xA _ _ _ _ _ _ (by decide)];omega
 refine⟨by rw[hw];show _≤30*(s6.i:Int)-40;omega,?_,aDv rfl ha (by cases get<;>decide)⟩;cases get
 ·obtain⟨t,rfl,ht⟩:=g4' rfl;have hm:∃m:Int,(if false=true then(16:Int)else 32)+ (if x.2=true then 64 else 0)=m∧(m=32∨m=96):=⟨_,rfl,by cases x.2<;>decide⟩;obtain⟨m,em,hm⟩:=hm;rw[em];refine aCk ha 115 (by decide) g1 ⟨g4b ha (by decide) (VX (by simp only[aV,bX,or_false];omega)) (by omega) hp g6,?_⟩;show isT 115 _=true
  rw[aG9];have d:t.op≠64:=fun h=>by have:=z_F (t:=t) (by rw[aFb,h];rfl);exact absurd (this.symm.trans ht.2) (by decide)
  rcases hm with rfl|rfl
  all_goals
   show(_&&decide (t.op≠64))=true
   rw[decide_eq_true d];rfl
 ·rw[g4 rfl]at hp⊢;have hm:∃m:Int,(if true=true then(16:Int)else 32)+ (if x.2=true then 64 else 0)=m∧(m=16∨m=80):=⟨_,rfl,by cases x.2<;>decide⟩;obtain⟨m,em,hm⟩:=hm;rw[em];refine aCk ha 103 (by decide) g1 ⟨g4b ha (by decide) (VX (by simp only[aV,bX,or_false];omega)) (by omega) hp g6,?_⟩;show isT 103 _=true
  rw[aHb];rcases hm with rfl|rfl
  all_goals rfl
theorem DT(hi:In E src s)(hn:8*(E.ts.length-s.i)+6≤n):PA E src s (fun x s' =>(wtT x.1:Int)+30*s.i≤30*s'.i-10∧x.2≤(src.size:Int)∧CP' src x.1∧(x.2<0→Gc src 82 x.1)) (nM E r s):=by
 have hl:=hi.lt;have c:=cQ hE s;unfold nM;dsimp only;split
 ·rename_i h;obtain⟨s1,e1,m1,i1,t1,o1,-⟩:=aT hE (mv0 hi) (cY h);rw[e1];refine(hr.asg true 1 s1 (m1.inn hi) (fun h=>absurd h (by decide)) (by omega)).bd m1 fun v s2 m2 n2 l2 t2 o2 q2=>.ret m2 fun e=>?_;obtain⟨w,g⟩:=q2 e;refine⟨?_,CR (m2.inn hi),⟨rfl,c,fun _ k hk ht=>?_,fun h=>absurd (show(4:Int)=3 from h) (by decide),fun h=>absurd (show(4:Int)=3 from h) (by decide),fun h=>absurd (show(4:Int)=0 from h) (by decide)⟩,fun d=>?_⟩
  ·dsimp only;rw[kE,if_pos rfl,cX,jL];omega
  ·cases hk;rcases g with g|⟨g,-⟩
   ·exact g.1
   ·have:=g.2.1;have:=IJ ht;omega
  ·rcases g with g|⟨g,-⟩
   ·exact aIf c g
   ·have:=g.2.2.2;dsimp only at d;omega
 ·split
  ·rename_i h;have hk:(aJ E s).k≠0:=by rw[aY]at h;exact h.1.elim tU tU
   obtain⟨s1,e1,m1,i1,t1,o1,-⟩:=aT hE (mv0 hi) hk;rw[e1];refine(FT hE hr _ _ c (m1.inn hi) (by omega)).bd m1 fun t s2 m2 n2 l2 t2 o2 q2=>.ret m2 fun e=>?_;obtain⟨w,g1,g2⟩:=q2 e;exact⟨by dsimp only;omega,by dsimp only;omega,g2,fun _=>g1⟩
  ·split
   ·rename_i h;obtain⟨s1,e1,m1,i1,t1,o1,-⟩:=aT hE (mv0 hi) (cY h);rw[e1];refine(xL hE hr (m1.inn hi) (by omega)).bd m1 fun k s2 m2 n2 l2 t2 o2 q2=>?_;refine(aAj hE hr _ _ _ 12 c (.inr rfl) (m2.inn hi) (by omega) fun e=>(q2 e).2).bd m2 fun t s3 m3 n3 l3 t3 o3 q3=>.ret m3 fun e=>?_;obtain⟨w,g1,g2⟩:=q3 e;have:=(q2 (o3 e)).1;exact⟨by dsimp only;omega,by dsimp only;omega,g2,fun _=>g1⟩
   ·split
    ·rename_i h;obtain⟨g1,g2,g3,g4⟩:=zY hE s h.1;have gk:Gc src 119 (T.mk 31 (aJ E s).at' 0 0 (aJ E s).s []):=⟨(zO hE s).1,by rw[aDq];unfold sE;show(decide ((31:Int)=31)&&iQ (aJ E s).s)=true;rw[g3];rfl⟩;obtain⟨s1,e1,m1,i1,t1,o1,-⟩:=aT hE (mv0 hi) (rI h.1);rw[e1];split
     ·rename_i h1;obtain⟨s2,e2,m2,i2,t2,o2,-⟩:=aT hE m1 (cY h1);rw[e2];refine(uK hr true (m2.inn hi) (by omega)).bd m2 fun v s3 m3 n3 l3 t3 o3 q3=>.ret m3 fun e=>?_;obtain⟨w,g⟩:=q3 e;have hp:=cQ hE s1;refine⟨?_,hp.2,⟨rfl,c,fun h=>absurd (show(3:Int)=4 from h) (by decide),fun _ k l hk _=>?_,fun _ k l hk=>?_,fun h=>absurd (show(3:Int)=0 from h) (by decide)⟩,fun d=>?_⟩
      ·dsimp only;rw[kE,if_pos rfl,cX,cX,jL,mS _ _ _ _ _ (by decide)];omega
      ·cases hk;exact⟨gk.1,g4,k1 g,rfl⟩
      ·cases hk;exact gk.2
      ·have:=hp.1;dsimp only at d;omega
     ·refine .ret m1 fun e=>?_;have hg:=aIe c gk g4;refine⟨?_,by dsimp only;omega,aCw hg,fun _=>hg⟩;dsimp only;rw[kE,if_pos rfl,cX,jL,mS _ _ _ _ _ (by decide)];omega
    ·refine(xL hE hr hi (by omega)).bd (mv0 hi) fun k s1 m1 n1 l1 t1 o1 q1=>?_;split
     ·refine(aAj hE hr _ _ _ 8 c (.inl rfl) (m1.inn hi) (by omega) fun e=>(q1 e).2).bd m1 fun t s3 m3 n3 l3 t3 o3 q3=>.ret m3 fun e=>?_;obtain⟨w,g1,g2⟩:=q3 e;have:=(q1 (o3 e)).1;exact⟨by dsimp only;omega,by dsimp only;omega,g2,fun _=>g1⟩
     ·obtain⟨s2,e2,m2,l2,t2,o2⟩:=bW hE m1 ⟨#[58]⟩;rw[e2];refine(hr.asg true 1 s2 (m2.inn hi) (fun h=>absurd h (by decide)) (by omega)).bd m2 fun v s3 m3 n3 l3 t3 o3 q3=>.ret m3 fun e=>?_;obtain⟨w3,g3⟩:=q3 e;have q2:=o2 (o3 e);obtain⟨w1,g1⟩:=q1 q2.1;refine⟨?_,CR (m3.inn hi),⟨rfl,c,fun h=>absurd (show(0:Int)=4 from h) (by decide),fun h=>absurd (show(0:Int)=3 from h) (by decide),fun h=>absurd (show(0:Int)=3 from h) (by decide),fun _ a b j=>?_⟩,fun d=>?_⟩
      ·dsimp only;rw[kE,if_pos rfl,cX,cX,jL];omega
      ·cases j;refine⟨g1,?_⟩;rcases g3 with g|⟨g,-⟩
       ·exact g.cov
       ·exact g.1
      ·rcases g3 with g|⟨g,-⟩
       ·exact aCk c 69 (by decide) g1 g
       ·have:=g.2.2.2;dsimp only at d;omega
theorem HM:∀(f:Nat) (p:Int) (acc:List T) (s:RdS),In E src s→(s.e=0→8*(E.ts.length-s.i)+6≤n)→(s.e=0→p≤(src.size:Int)∧(∀t∈acc,CP' src t)∧(p<0→∀t∈acc,Gc src 82 t))→
 PA E src s (fun x s' =>(wtL x.2:Int)+30*s.i≤30*s'.i+wtL acc∧x.1≤(src.size:Int)∧(∀t∈x.2,CP' src t)∧(x.1<0→∀t∈x.2,Gc src 82 t)) (qA E r f p acc s)
 |0,p,acc,s,hi,hn,ha=>.ret (mv0 hi) fun e=>⟨by dsimp only;omega,ha e⟩
 | f +1,p,acc,s,hi,hn,ha=>by
   have hl:=hi.lt;rw[qA];split
   ·rename_i h;have b:=hn h.1;obtain⟨a1,a2,a3⟩:=ha h.1;refine(DT hE hr hi (by omega)).bd (mv0 hi) fun k s1 m1 n1 l1 t1 o1 q1=>?_;dsimp only;have hp:s1.e=0→(if p<0 then k.2 else p)≤(src.size:Int)∧(∀t∈acc++[k.1],CP' src t)∧((if p<0 then k.2 else p)<0→∀t∈acc++[k.1],Gc src 82 t):=fun e=>by
     obtain⟨w1,b1,b2,b3⟩:=q1 e;refine⟨by split;exact b1;exact a1,k3 a2 (k1 b2),fun a=>?_⟩;split at a
     ·exact k3 (a3 (by omega)) (k1 (b3 a))
     ·omega
    split
    ·rename_i h2;obtain⟨s3,e3,m3,i3,t3,o3,-⟩:=aT hE m1 (cY h2);rw[e3];have h4:=HM f (if p<0 then k.2 else p) (acc++[k.1]) s3 (m3.inn hi) (fun e=>by omega) fun e=>hp (by omega);refine⟨m3.trans h4.mv,fun e=>?_⟩;obtain⟨w4,g4⟩:=h4.ok e;have:=(q1 (by have:=h4.mv.ok e;omega)).1;rw[mH]at w4;exact⟨by omega,g4⟩
    ·refine .ret m1 fun e=>⟨?_,hp e⟩;have:=(q1 e).1;dsimp only;rw[mH];omega
   ·exact .ret (mv0 hi) fun e=>⟨by dsimp only;omega,ha e⟩
theorem DX(hi:In E src s)(hk:(aJ E s).k≠0)(hn:8*(E.ts.length-s.i)≤n+2):PA E src s (fun x s' =>(wtT x.1:Int)+30*s.i≤30*s'.i-25∧x.2≤(src.size:Int)∧Cov src x.1∧(x.1.op=37∨x.1.op=38)∧Pl src x.1.at' ∧(x.2<0→Gc src 69 x.1)) (oY E r s):=by
 have hl:=hi.lt;unfold oY;obtain⟨s1,e1,m1,i1,t1,o1,-⟩:=aT hE (mv0 hi) hk;rw[e1];refine(HM hE hr _ (-1) [] s1 (m1.inn hi) (fun e=>by omega) fun _=>⟨by omega,k0,fun _=>k0⟩).bd m1 fun x s2 m2 n2 l2 t2 o2 q2=>?_;obtain⟨s3,e3,m3,l3,t3,o3⟩:=bW hE m2 ⟨#[125]⟩;rw[e3];refine .ret m3 fun e=>?_;have q3:=o3 e;obtain⟨w,g1,g2,g3⟩:=q2 q3.1;refine⟨?_,g1,SL (t:=nd 38 (aJ E s).at' x.2) rfl (cQ hE s) g2,.inr rfl,cQ hE s,fun h=>g38 (cQ hE s) (g3 h)⟩;dsimp only;rw[xA _ _ _ _ _ _ (by decide)];rw[show wtL ([]:List T)=0 from rfl]at w;omega
end
end
section
open Go.RowKit Go.Vcg
variable{src:ByteArray}
section
variable{E:TkE}{s:RdS}{n:Nat}{r:RdR}(hE:TOk E src)
theorem aDj{k:Int}{t:T}{s' :RdS}(h:QX src 69 k s t s')(hk:k≤ -25):QP E src s t s' :=⟨by have:=h.1;omega,.inl h.2⟩
include hE
variable(hr:nB E src n r)
include hr
theorem HP(hi:In E src s)(hk:isR E s ⟨#[91]⟩=true∨isR E s ⟨#[123]⟩=true)(hn:8*(E.ts.length-s.i)≤n+2):PA E src s (QP E src s) (pG E r s):=by
 have d:(aJ E s).k≠0:=hk.elim cY cY;have j:PA E src s (fun x s' =>(wtT x.1:Int)+30*s.i≤30*s'.i-25∧x.2≤(src.size:Int)∧Cov src x.1∧(x.1.op=37∨x.1.op=38)∧Pl src x.1.at' ∧(x.2<0→Gc src 69 x.1)) (if isR E s ⟨#[91]⟩=true then sK E r s else oY E r s):=by
  split
  ·exact KA hE hr hi d (by omega)
  ·exact DX hE hr hi d (by omega)
 unfold pG;dsimp only;refine j.bd (mv0 hi) fun x s1 m1 n1 l1 t1 o1 q1=>?_;split
 ·rename_i h;obtain⟨w,b1,b2,b3,b4,-⟩:=q1 h.1;generalize c:(isR E s1 ⟨#[61]⟩||decide ((if s.bg=s.i then s.as' else 0)=1)&&(isR E s1 ⟨#[44]⟩||isR E s1 ⟨#[93]⟩||isR E s1 ⟨#[125]⟩||isR E s1 ⟨#[41]⟩)||decide ((if s.bg=s.i then s.as' else 0)=2)&&kJ E s1)=ok;cases ok
  ·rw[if_neg (by decide)];have m2:=m1.yI hE.toEOk (a:=x.2) (e:=23) fun _=>⟨h.2,b1⟩;exact .bad ⟨m2.le,m2.lt,m2.er,m2.ap,fun _=>⟨h.2,b1⟩,m2.bgm⟩ (show(iF E x.2 23 s1).e≠0 from nD (by decide))
  ·rw[if_pos rfl];refine .ret ⟨m1.le,m1.lt,m1.er,m1.ap,fun _=>⟨h.2,b1⟩,m1.bgm⟩ fun e=>⟨w,.inr (.inl ⟨⟨b2,b3,b4,?_⟩,?_⟩)⟩
   ·unfold lR;rw[if_pos ⟨h.1,rfl,rfl⟩];exact h.2
   ·simp only[aY,aM,decide_eq_true_eq]at c;rcases c with(c|⟨h1,h2⟩)|⟨h1,h2⟩
    ·exact .inl c
    ·have b:s.bg=s.i:=Decidable.byContradiction fun g=>by rw[if_neg g]at h1;omega
     rw[if_pos b]at h1;refine .inr (.inl ⟨b,h1,?_⟩);show elR E s1=true
     unfold elR;simp only[aY];exact h2
    ·have b:s.bg=s.i:=Decidable.byContradiction fun g=>by rw[if_neg g]at h1;omega
     rw[if_pos b]at h1;exact .inr (.inr ⟨b,h1,h2⟩)
 ·rename_i h;refine .ret m1 fun e=>?_;obtain⟨w,-,-,-,-,g⟩:=q1 e;exact⟨w,.inl (g (by omega))⟩
theorem wP(hi:In E src s)(hn:8*(E.ts.length-s.i)≤n+2):PA E src s (QP E src s) (lQ E r s):=by
 have hl:=hi.lt;have a:=cQ hE s;have one:∀(t:T),(aJ E s).k≠0→wtT t=1→Gc src 69 t→PA E src s (QP E src s) (t,bJ E s):=fun t hk hw hg=>by obtain⟨s1,e1,m1,i1,t1,o1,-⟩:=aT hE (mv0 hi) hk;rw[e1];exact .ret m1 fun e=>⟨by rw[hw];omega,.inl hg⟩
 unfold lQ;dsimp only;by_cases h:(aJ E s).k=3
 ·rw[if_pos h];exact one _ (by omega) (mS _ _ _ _ _ (by decide)) ⟨g30 a (hE.nu _ h),pZ rfl⟩
 rw[if_neg h];clear h;by_cases h:(aJ E s).k=4
 ·rw[if_pos h];exact one _ (by omega) (mS _ _ _ _ _ (by decide)) ⟨g31 a (oB hE s),pZ rfl⟩
 rw[if_neg h];clear h;by_cases h:cP E s ⟨#[116,114,117,101]⟩=true
 ·rw[if_pos h];exact one _ (eC h) (mS _ _ _ _ _ (by decide)) ⟨g32 a (by decide),pZ rfl⟩
 rw[if_neg h];clear h;by_cases h:cP E s ⟨#[102,97,108,115,101]⟩=true
 ·rw[if_pos h];exact one _ (eC h) (mS _ _ _ _ _ (by decide)) ⟨g32 a (by decide),pZ rfl⟩
 rw[if_neg h];clear h;by_cases h:cP E s ⟨#[110,117,108,108]⟩=true
 ·rw[if_pos h];exact one _ (eC h) (mS _ _ _ _ _ (by decide)) (g33 a (.inl rfl))
 rw[if_neg h];clear h;by_cases h:cP E s ⟨#[116,104,105,115]⟩=true
 ·rw[if_pos h];exact one _ (eC h) (mS _ _ _ _ _ (by decide)) (g33 a (.inr rfl))
 rw[if_neg h];clear h;by_cases h:mL s (aJ E s)=true
 ·rw[if_pos h];obtain⟨g1,g2,-⟩:=zY hE s h;exact one _ (rI h) (mS _ _ _ _ _ (by decide)) ⟨g1.1,g2⟩
 rw[if_neg h];clear h;by_cases h:cP E s ⟨#[102,117,110,99,116,105,111,110]⟩=true
 ·rw[if_pos h];exact(uB hE hr false hi (eC h) hn).imp fun t s' h=>⟨by have:=h.1;omega,.inl (h.2.2 rfl)⟩
 rw[if_neg h];clear h;by_cases h:(aJ E s).k=6∧(aJ E s).n=0
 ·rw[if_pos h];exact(DE hE hr hi (by omega) (by omega)).imp fun t s' h=>aDj h (by omega)
 rw[if_neg h];clear h;by_cases h:isR E s ⟨#[40]⟩=true
 ·rw[if_pos h];exact(FL hE hr hi (cY h) (by omega)).imp fun t s' h=>aDj h (by omega)
 rw[if_neg h];clear h;by_cases h:(isR E s ⟨#[91]⟩||isR E s ⟨#[123]⟩)=true
 ·rw[if_pos h];rw[aY]at h;exact HP hE hr hi h hn
 rw[if_neg h];clear h;exact .failed hE (mv0 hi)
theorem NM(i0:Int):∀(f:Nat) (t:T) (o:Bool) (s:RdS),In E src s→8*(E.ts.length-s.i)≤n+2→(s.e=0→E.ts.length-s.i≤f∧ChR src o t∧(wtT t:Int)+30*i0≤30*s.i-25)→
 PA E src s (fun t' s' =>(wtT t' :Int)+30*i0≤30*s'.i-24∧Gc src 69 t') (lI E r f t o s)
 |0,t,o,s,hi,hn,c=>.ret (mv0 hi) fun e=>by have:=(c e).1;have:=hi.lt;omega
 | f + 1,t,o,s,hi,hn,c=>by
   have hl:=hi.lt;rw[lI];split
   ·rename_i h;exact .bad (mv0 hi) h
   ·rename_i he;obtain⟨hf,hc,hw⟩:=c (Decidable.not_not.1 he);have d:=tF t;have fin:∀{t' :T} {o' :Bool} {s1:RdS},Mv E (src.size:Int) s s1→(s1.e=0→s.i<s1.i∧ChR src o' t' ∧(wtT t' :Int)+30*i0≤30*s1.i-25)→PA E src s (fun t' s' =>(wtT t' :Int)+30*i0≤30*s'.i-24∧Gc src 69 t') (lI E r f t' o' s1):=fun{t' o' s1} m1 h=>by have hle:=m1.le;have h3:=NM i0 f t' o' s1 (m1.inn hi) (by omega) fun e=>⟨by have:=(h e).1;omega,(h e).2⟩;exact⟨m1.trans h3.mv,h3.ok⟩
    split
    ·rename_i h1;obtain⟨s1,e1,m1,i1,t1,o1,-⟩:=aT hE (mv0 hi) (cY h1);rw[e1];refine(wT hE t (m1.inn hi)).bd m1 fun k s2 m2 n2 l2 t2 o2 q2=>fin m2 fun e=>?_;obtain⟨op,x,rest,rfl,hk,a⟩:=q2 e;exact⟨by omega,JV hk hc,by omega⟩
    split
    ·rename_i h1;refine(qB hE hr t hi (cY h1) (by omega)).bd (mv0 hi) fun k s2 m2 n2 l2 t2 o2 q2=>fin m2 fun e=>?_;obtain⟨op,x,rest,rfl,hk,a⟩:=q2 e;have:=tF (T.mk op t.at' 0 0 x (t::rest));have h4:wtT t<wtT (T.mk op t.at' 0 0 x (t::rest)):=WK (t:=T.mk op t.at' 0 0 x (t::rest)) aA;exact⟨by omega,JV hk hc,by omega⟩
    split
    ·rename_i h1;refine(AK hE hr t hi (by omega)).bd (mv0 hi) fun k s2 m2 n2 l2 t2 o2 q2=>fin m2 fun e=>?_;obtain⟨op,x,rest,rfl,hk,a⟩:=q2 e;have h4:wtT t<wtT (T.mk op t.at' 0 0 x (t::rest)):=WK (t:=T.mk op t.at' 0 0 x (t::rest)) aA;exact⟨by omega,JV hk hc,by omega⟩
    split
    ·rename_i h1;obtain⟨s1,e1,m1,i1,t1,o1,-⟩:=aT hE (mv0 hi) (cY h1);dsimp only;rw[e1];have b:PA E src s1 (QL src t s1) (if isR E s1 ⟨#[91]⟩=true then nX E r t s1 else if isR E s1 ⟨#[40]⟩=true then wD E r t s1 else mJ E t s1):=by
      split
      ·rename_i h2;exact qB hE hr t (m1.inn hi) (cY h2) (by omega)
      ·split
       ·exact AK hE hr t (m1.inn hi) (by omega)
       ·exact wT hE t (m1.inn hi)
     refine b.bd m1 fun k s2 m2 n2 l2 t2 o2 q2=>fin m2 fun e=>?_;obtain⟨op,x,rest,rfl,hk,a⟩:=q2 e;have h6:wtT (GP (T.mk op t.at' 0 0 x (t::rest)))=wtT (T.mk op t.at' 0 0 x (t::rest)):=by
      show wtT (T.mk op t.at' 1 0 x (t::rest))=_
      rw[kE,kE]
     exact⟨by omega,aFv hk hc,by rw[h6];omega⟩
    split
    ·exact .failed hE (mv0 hi)
    ·refine .ret (mv0 hi) fun e=>?_;obtain⟨b1,b2,-⟩:=hc.e;rcases hc with⟨rfl,hc⟩|⟨rfl,g1,g2,g3⟩
     ·exact⟨by rw[if_neg (by decide)];omega,by rw[if_neg (by decide)];exact hc⟩
     ·rw[if_pos rfl];refine⟨?_,g53 b2 g1 g2 g3⟩;rw[sA _ _ _ _ _ _ (by decide)];omega
omit hr in
omit hE in
theorem QM{f:Nat}{t:T}(h:Stp E s)(he:s.e=0):lI E r (f+1) t false s=(t,s):=by
 rw[lI,if_neg (by rw[he];decide),pQ (x:=⟨#[46]⟩) h (by decide),if_neg (by decide),pQ (x:=⟨#[91]⟩) h (by decide),if_neg (by decide),pQ (x:=⟨#[40]⟩) h (by decide),if_neg (by decide),pQ (x:=⟨#[63,46]⟩) h (by decide),if_neg (by decide),if_neg (fun g=>(aDb h).1 g.1),if_neg (by decide)]
theorem TR(hi:In E src s)(hn:8*(E.ts.length-s.i)+2≤n):PA E src s (QC E src s) (wB E r s):=by
 have hl:=hi.lt;have b:PA E src s (QP E src s) (if cP E s ⟨#[110,101,119]⟩=true then r.fre s else lQ E r s):=by
  split
  ·rename_i h;exact(hr.fre s hi hn (eC h)).imp fun t s' h=>⟨h.1,h.2.elim .inl fun g=>.inr (.inr g)⟩
  ·exact wP hE hr hi (by omega)
 unfold wB;refine b.bd (mv0 hi) fun t s1 m1 n1 l1 t1 o1 q1=>?_;have stop:Stp E s1→s1.e=0→QC E src s t s1→PA E src s (QC E src s) (lI E r (E.ts.length+1) t false s1):=fun h he a=>by rw[QM h he];exact .ret m1 fun _=>a
 by_cases he:s1.e=0
 ·obtain⟨w,g⟩:=q1 he;rcases g with g|⟨g1,g2⟩|g
  ·have h3:=NM hE hr (s.i:Int) (E.ts.length+1) t false s1 (m1.inn hi) (by omega) fun _=>⟨by omega,.inl ⟨rfl,g⟩,by omega⟩;exact⟨m1.trans h3.mv,fun e=>⟨by have:=(h3.ok e).1;omega,.inl (h3.ok e).2⟩⟩
  ·exact stop (BZ g2) he ⟨by omega,.inr (.inl ⟨g1,g2⟩)⟩
  ·exact stop (.inl g.1) he ⟨by omega,.inr (.inr g)⟩
 ·rw[lI,if_pos he];exact .bad m1 he
theorem MS(i0:Int):∀(f:Nat) (t:T) (s:RdS),In E src s→8*(E.ts.length-s.i)≤n+2→(s.e=0→Gc src 69 t∧(wtT t:Int)+30*i0≤30*s.i-25)→
 PA E src s (fun t' s' =>(wtT t' :Int)+30*i0≤30*s'.i-25∧Gc src 69 t') (pU E r f t s)
 |0,t,s,hi,hn,a=>.ret (mv0 hi) fun e=>⟨(a e).2,(a e).1⟩
 | f +1,t,s,hi,hn,a=>by
   have hl:=hi.lt;rw[pU];split
   ·rename_i h;obtain⟨hc,hw⟩:=a h.1;have hk:PA E src s (QL src t s) (if isR E s ⟨#[46]⟩=true then mJ E t (bJ E s)else nX E r t s):=by
     split
     ·rename_i h1;obtain⟨s1,e1,m1,i1,t1,o1,-⟩:=aT hE (mv0 hi) (cY h1);rw[e1];have:=wT hE t (m1.inn hi);refine⟨m1.trans this.mv,fun e=>?_⟩;obtain⟨o,x,rest,e2,hk,b⟩:=this.ok e;exact⟨o,x,rest,e2,hk,by omega⟩
     ·rename_i h1;have h2:=h.2;rw[aY]at h2;exact qB hE hr t hi (cY (h2.resolve_left h1)) (by omega)
    refine hk.bd (mv0 hi) fun k s2 m2 n2 l2 t2 o2 q2=>?_;have h3:=MS i0 f k s2 (m2.inn hi) (by omega) fun e=>by obtain⟨o,x,rest,rfl,hk,b⟩:=q2 e;exact⟨aGx hk hc.1.at' hc,by omega⟩
    exact⟨m2.trans h3.mv,h3.ok⟩
   ·exact .ret (mv0 hi) fun e=>⟨(a e).2,(a e).1⟩
theorem aCl(hi:In E src s)(hk:(aJ E s).k≠0)(hn:8*(E.ts.length-s.i)≤n+2):PA E src s (QF E src s) (yB E r s):=by
 have hl:=hi.lt;have b:=cQ hE s;unfold yB;dsimp only;obtain⟨s1,e1,m1,i1,t1,o1,b1⟩:=aT hE (mv0 hi) hk;rw[e1];have j:PA E src s1 (QP E src s1) (if cP E s1 ⟨#[110,101,119]⟩=true then r.fre s1 else lQ E r s1):=by
  split
  ·rename_i h;exact(hr.fre s1 (m1.inn hi) (by omega) (eC h)).imp fun t s' h=>⟨h.1,h.2.elim .inl fun g=>.inr (.inr g)⟩
  ·exact wP hE hr (m1.inn hi) (by omega)
 refine j.bd m1 fun t s2 m2 n2 l2 t2 o2 q2=>?_;by_cases he:s2.e=0
 ·obtain⟨w,g⟩:=q2 he;have d:=hi.bg;have a:Gc src 69 t∨isR E s2 ⟨#[61]⟩=true:=by
   rcases g with g|⟨-,g|⟨g,-⟩|⟨g,-⟩⟩|g
   ·exact .inl g
   ·exact .inr g
   ·omega
   ·omega
   ·exact .inr g.1
  rcases a with gc|c
  ·refine(MS hE hr (s1.i:Int) _ t s2 (m2.inn hi) (by omega) fun _=>⟨gc,by omega⟩).bd m2 fun u s3 m3 n3 l3 t3 o3 q3=>?_;split
   ·refine(FQ hE hr (m3.inn hi) (by omega)).bd m3 fun l s4 m4 n4 l4 t4 o4 q4=>.ret m4 fun e=>?_;obtain⟨w4,g4⟩:=q4 e;obtain⟨w3,g3⟩:=q3 (o4 e);refine⟨?_,.inl (g50 b g3 g4)⟩;rw[xA _ _ _ _ _ _ (by decide),show wtL (u::l)=wtT u+wtL l from cX u l];omega
   ·split
    ·exact .failed hE m3
    ·refine .ret m3 fun e=>?_;obtain⟨w3,g3⟩:=q3 e;refine⟨?_,.inl (g50 b g3 k0)⟩;rw[sA _ _ _ _ _ _ (by decide)];omega
  ·have hs:Stp E s2:=.inl c;rw[pU,if_neg (fun h=>by rw[pQ (x:=⟨#[46]⟩) hs (by decide),pQ (x:=⟨#[91]⟩) hs (by decide)]at h;exact absurd h.2 (by decide))];unfold bd;dsimp only;rw[pQ (x:=⟨#[40]⟩) hs (by decide),if_neg (by decide),if_neg (fun h=>by
    rcases h with h|h
    ·rw[pQ (x:=⟨#[63,46]⟩) hs (by decide)]at h;exact absurd h (by decide)
    ·exact(aDb hs).1 h.1)]
   refine .ret m2 fun e=>⟨?_,.inr ⟨c,DY (by decide) b⟩⟩;rw[sA _ _ _ _ _ _ (by decide)];omega
 ·refine PA.bd (Q1:=fun _ _=>True) (p:=pU E r (E.ts.length+1) t s2) ⟨?_,fun _=>trivial⟩ m2 fun u s3 m3 n3 l3 t3 o3 q3=>?_
  ·rw[pU,if_neg (fun h=>he h.1)];exact mv0 (m2.inn hi)
  ·split
   ·refine(FQ hE hr (m3.inn hi) (by omega)).bd m3 fun l s4 m4 n4 l4 t4 o4 q4=>.bad m4 fun e=>he (o3 (o4 e))
   ·split
    ·exact .failed hE m3
    ·exact .bad m3 fun e=>he (o3 e)
theorem aA5(hi:In E src s)(hn:8*(E.ts.length-s.i)+2≤n):PA E src s (QC E src s) (xO E r s):=by
 have hl:=hi.lt;have b:=cQ hE s;have c:=hi.bg;unfold xO;dsimp only;split
 ·rename_i h;have hc:(aJ E s).k≠0∧lX (aJ E s).s yK=true:=by
   have d:=h;simp only[aY]at h;rcases h with(((((h|h)|h)|h)|h)|h)|h
   ·refine⟨eC h,?_⟩;unfold cP at h;rw[aM,decide_eq_true_eq]at h;rw[h.1];decide
   ·refine⟨eC h,?_⟩;unfold cP at h;rw[aM,decide_eq_true_eq]at h;rw[h.1];decide
   ·refine⟨eC h,?_⟩;unfold cP at h;rw[aM,decide_eq_true_eq]at h;rw[h.1];decide
   all_goals
    refine⟨cY h,?_⟩;rw[(mD.1 h).2];decide
  obtain⟨s1,e1,m1,i1,t1,o1,b1⟩:=aT hE (mv0 hi) hc.1;rw[e1];refine(hr.una s1 (m1.inn hi) (by omega)).bd m1 fun k s2 m2 n2 l2 t2 o2 q2=>.ret m2 fun e=>?_;obtain⟨w,g⟩:=q2 e;refine⟨by rw[sA _ _ _ _ _ _ (by decide)];omega,?_⟩;rcases g with g|⟨-,g|⟨g,-⟩|⟨g,-⟩⟩|g
  ·exact .inl (g42 b hc.2 g (oB hE s))
  ·exact .inr (.inr ⟨g,DY (by decide) b⟩)
  ·omega
  ·omega
  ·exact .inr (.inr ⟨g.1,DY (by decide) b⟩)
 ·split
  ·rename_i h;have hc:(aJ E s).k≠0∧lX (aJ E s).s tH=true:=by
    rw[aY]at h;rcases h with h|h
    ·refine⟨cY h,?_⟩;rw[(mD.1 h).2];decide
    ·refine⟨cY h,?_⟩;rw[(mD.1 h).2];decide
   obtain⟨s1,e1,m1,i1,t1,o1,b1⟩:=aT hE (mv0 hi) hc.1;rw[e1];refine(hr.una s1 (m1.inn hi) (by omega)).bd m1 fun k s2 m2 n2 l2 t2 o2 q2=>?_;by_cases hb:s2.e=0∧eW k=false
   ·have hp:Pl src k.at' :=by
     rcases(q2 hb.1).2 with g|⟨g,-⟩|g
     ·exact g.1.at'
     ·exact g.2.2.1
     ·exact g.2.2.2.2
    unfold DA;rw[if_pos hb];exact .bad (m2.yI hE.toEOk fun _=>hp) (nD (by decide))
   ·unfold DA;rw[if_neg hb];refine .ret m2 fun e=>?_;have a:eW k=true:=by
     cases h:eW k with
     |true=>rfl
     |false=>exact absurd ⟨e,h⟩ hb
    obtain⟨w,g⟩:=q2 e;have gc:Gc src 69 k:=by
     rcases g with g|⟨g,-⟩|⟨-,g⟩
     ·exact g
     ·have:=IJ a;have:=g.2.1;omega
     ·exact absurd ((RJ a).symm.trans g.1) (by decide)
    refine⟨by rw[sA _ _ _ _ _ _ (by decide)];omega,.inl (g43 b (by decide) hc.2 ⟨gc.1,(DC a).2⟩ (oB hE s))⟩
  ·refine(TR hE hr hi hn).bd (mv0 hi) fun k s1 m1 n1 l1 t1 o1 q1=>?_;split
   ·rename_i h;obtain⟨w,g⟩:=q1 h.2.2;have hc:(aJ E s1).k≠0∧lX (aJ E s1).s tH=true∧¬Stp E s1:=by
     have h1:=h.1;rw[aY]at h1;rcases h1 with h|h
     ·refine⟨cY h,by rw[(mD.1 h).2];decide,fun hs=>?_⟩;rw[pQ hs (by decide)]at h;exact absurd h (by decide)
     ·refine⟨cY h,by rw[(mD.1 h).2];decide,fun hs=>?_⟩;rw[pQ hs (by decide)]at h;exact absurd h (by decide)
    have gc:Gc src 69 k:=by
     rcases g with g|⟨-,g⟩|⟨g,-⟩
     ·exact g
     ·exact absurd (BZ g) hc.2.2
     ·exact absurd (.inl g) hc.2.2
    obtain⟨s2,e2,m2,i2,t2,o2,b2⟩:=aT hE m1 hc.1;rw[e2];by_cases hb:s2.e=0∧eW k=false
    ·unfold DA;rw[if_pos hb];exact .bad (m2.yI hE.toEOk fun _=>gc.1.at') (nD (by decide))
    ·unfold DA;rw[if_neg hb];refine .ret m2 fun e=>?_;have a:eW k=true:=by
      cases h:eW k with
      |true=>rfl
      |false=>exact absurd ⟨e,h⟩ hb
     exact⟨by rw[sA _ _ _ _ _ _ (by decide)];omega,.inl (g43 gc.1.at' (by decide) hc.2.1 ⟨gc.1,(DC a).2⟩ (oB hE s1))⟩
   ·exact .ret m1 q1
end
end
end Go.Proofs.YtknieidhopbngaaGreat
