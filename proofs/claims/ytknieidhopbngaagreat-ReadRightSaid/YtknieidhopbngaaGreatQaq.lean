/- Package read: objects, brackets. -/
import Derived.Test.YtknieidhopbngaaGreatQap
set_option maxRecDepth 20000
set_option maxHeartbeats 2000000
namespace Go.Proofs.YtknieidhopbngaaGreat
open Go.RowKit Go.Vcg
attribute [local irreducible] jE G GC GQ GA dV Calls IntKind.wrap Int.decLt Int.decLe
section
variable{E:TkE}{src:ByteArray}{V:RPl}{xb n:Nat}{r:RdR}{s:RdS}{μ:Mem}(hE:TOk E src)(hr:nB E src n r)(hw:rO E src V xb n r)(h8:∀b s,(r.stm b s).1.op=8→(r.stm b s).1.kids≠[])(hi:In E src s)(hm:RM E V μ)
include hE hr hw h8 hi hm
theorem HE(af:(aJ E s).k≠0)(hn:8*(E.ts.length-s.i)≤n+2):zCR E V xb 170 [.pointer (some ⟨xb,0,none⟩)] s (oY E r s).2 μ (fun μ' v=>TI μ' (oY E r s).1 v):=by
 intro w hμ hO;have y:=bF hO.diff;have hl:=hi.lt;have ah:=hm.few;generalize u:oY E r s=q;unfold oY bd at u;try dsimp only at u
 obtain⟨s1,e1,m1,i1,t1,o1,-⟩:=aT hE (mv0 hi) af;have ag:=m1.inn hi;rw[e1]at u;generalize hQ:qA E r (E.ts.length+1) (-1) [] s1=Q at u;refine aC Tryz.func170 rfl Tryz.ntmps170 (by simp) hμ hO ?_;try repeat' (first|refine KO ?_|(refine CF 42 ?_;refine GP1 rfl (bN (by assumption) (by assumption) (hm.mono ML)) ?_;dsimp only[ca,na])|refine KZ ?_|refine NB fun b=>?_)
 rename_i b2;refine dH (ι:=Nat×List (T×Value)×RdS×Mem×Value×Int) (fun i=>MLe μ i.2.2.2.1∧Kids i.2.2.2.1 i.2.1∧In E src i.2.2.1∧(i.2.2.1.e=0→8*(E.ts.length-i.2.2.1.i)+6≤n)∧(i.2.2.1.e=0→E.ts.length-i.2.2.1.i<i.1)∧i.2.1.length+i.1=E.ts.length+1∧Q=qA E r i.1 i.2.2.2.2.2 (i.2.1.map (·.1)) i.2.2.1)
  (fun i=>i.1) (fun i=>i.2.2.2.1) (fun i=>[(0,.pointer (some ⟨xb,0,none⟩)),(2,.pointer (some ⟨b2,0,none⟩)),(4,.pointer (some ⟨b,0,none⟩)),(5,.int .i64 i.2.2.2.2.2)]) (fun i=>[.inr ⟨i.2.2.2.2.1,25,6,i.2.1.length,i.2.1.flatMap bV⟩,.inl ⟨b,25,6,[(0,.int .i64 38),(1,.int .i64 (aJ E s).at'),(2,.int .i64 0),(3,.int .i64 0),(4,.string ⟨#[]⟩),(5,i.2.2.2.2.1)]⟩,.inl ⟨b2,25,6,[]⟩,RB E V xb i.2.2.1])
  (E.ts.length+1,[],s1,μ,.slice none 0 0,(-1)) ⟨by exact MLe.refl _,(Kids.nil _),ag,fun e=>by dsimp only;omega,fun e=>by dsimp only;omega,by simp;try omega,hQ.symm⟩ (fun a w hs=>(hs.kU 25 6).sel PU PS) ?_
 rintro⟨f,ps,s2,μ2,v,pp⟩ ⟨H2,d,o,ab,hf,hlen,hJ⟩;dsimp only at H2 d o ab hf hlen hJ⊢;have t2:=o.lt;refine iZ 0 rfl ?_;rintro A1 c1 rfl ad;by_cases hc:s2.e=0∧isR E s2 ⟨#[125]⟩=false
 ·obtain⟨aj,ai⟩:=id hc;obtain⟨f,rfl⟩:∃g,f=g+1:=⟨f-1,by have:=hf hc.1;omega⟩;have ab:=ab hc.1;have hf:=hf hc.1;rw[qA,if_pos hc]at hJ;unfold bd at hJ;dsimp only at hJ;have h3:=fun(μ9:Mem) (h9:MLe μ μ9)=>LI hE hr hw h8 o (hm.mono h9) (by omega);have m3:=(DT hE hr o (by omega)).mv;generalize nM E r s2=p9 at hJ h3 m3;obtain⟨x3,s3⟩:=p9;dsimp only at hJ h3 m3;have l:=m3.inn o;have l3:=m3.le;have t3:=m3.lt;obtain⟨x3,y3⟩:=x3;dsimp only at hJ h3;by_cases hp:pp<0
  ·rw[if_pos hp]at hJ;by_cases j:isR E s3 ⟨#[44]⟩=true
   ·rw[if_pos j]at hJ;have ee4:cH E ⟨#[44]⟩ s3=bJ E s3:=by unfold cH;rw[if_pos j]
    obtain⟨s4,e4,m4,i4,t4,o4,-⟩:=aT hE (mv0 l) (cY j);have z:=m4.inn l;rw[e4]at hJ;rw[e4]at ee4;try repeat' (first|refine PBT ?_|refine PBF ?_|refine KO ?_|(refine CF 23 ?_;refine GP2 rfl (dD (by assumption) (hm.mono ML) _) ?_;dsimp only[ca,na])|(refine CF 53 ?_;refine GP2 rfl (eU (by assumption) (by assumption) (hm.mono ML)) ?_;dsimp only[ca,na])|(refine CF 171 ?_;refine GR1 rfl (h3 _ ML) ?_;(rintro v3 μ3 c ⟨u3,rfl,h⟩;have o_u3:=h.one;have H3:MLe μ μ3:=MLe.trans ML c;have d:=d.mono c);dsimp only[ca,na])|refine KZ ?_|refine XS0 ?_|(refine XAP fun v=>?_;refine bB 2 rfl ?_;rintro A2 c2 rfl p)|refine NB fun b=>?_)
    all_goals refine dZ (f,ps++[(x3,u3)],s4,μ3,.slice A2 (ps.length+1) c2,y3) ⟨ML,Kids.app d (Kids.cons (h) (Kids.nil _)),z,fun e=>by dsimp only at e⊢;omega,fun e=>by dsimp only at e⊢;omega,by simp only[aB,aF,aL];omega,by dsimp only;rw[aE];exact hJ⟩ (by dsimp only;omega) rfl PU (by dsimp only;rw[aB,aD];exact PS)
   ·rw[if_neg j]at hJ;have aa:=eq_false_of_ne_true j;have ee3:cH E ⟨#[44]⟩ s3=s3:=by unfold cH;rw[if_neg (by simp[aa])]
    subst hJ;try dsimp only at u
    obtain⟨s4,e4,m4,l4,t4,o4⟩:=bW hE (mv0 l) ⟨#[125]⟩;have z:=m4.inn l;rw[e4]at u;subst u;try repeat' (first|refine PBF ?_|refine KO ?_|(refine CF 23 ?_;refine GP2 rfl (dD (by assumption) (hm.mono ML) _) ?_;dsimp only[ca,na])|(refine CF 65 ?_;refine GU2 rfl (dF (by assumption) (by assumption) (hm.mono ML)) ?_;intro v9;dsimp only[ca,na])|(refine CF 53 ?_;refine GP2 rfl (eU (by assumption) (by assumption) (hm.mono ML)) ?_;dsimp only[ca,na])|(refine CF 171 ?_;refine GR1 rfl (h3 _ ML) ?_;(rintro v3 μ3 c ⟨u3,rfl,h⟩;have o_u3:=h.one;have H3:MLe μ μ3:=MLe.trans ML c;have d:=d.mono c);dsimp only[ca,na])|refine KZ ?_|refine XS0 ?_|(refine XAP fun v=>?_;refine bB 2 rfl ?_;rintro A2 c2 rfl p)|refine NB fun b=>?_)
    all_goals(apply kT y rfl;exact(RG 4 rfl rfl rfl rfl rfl);exact aN rfl;exact rfl;exact .refl _;exact fun μ' hle x=>(by have h8:=KR.bI (bD (enc:=bV) (xs:=ps++[(x3,u3)]) (x _ (by exact(aS (aS (aA))))) (by simp) (by simp) (by rw[aD];rfl)) p.cap (Kids.app (d.mono hle) (Kids.single (h.mono hle)));rw[aE]at h8;exact h8))
  ·rw[if_neg hp]at hJ;by_cases j:isR E s3 ⟨#[44]⟩=true
   ·rw[if_pos j]at hJ;have ee4:cH E ⟨#[44]⟩ s3=bJ E s3:=by unfold cH;rw[if_pos j]
    obtain⟨s4,e4,m4,i4,t4,o4,-⟩:=aT hE (mv0 l) (cY j);have z:=m4.inn l;rw[e4]at hJ;rw[e4]at ee4;try repeat' (first|refine PBT ?_|refine PBF ?_|refine KO ?_|(refine CF 23 ?_;refine GP2 rfl (dD (by assumption) (hm.mono ML) _) ?_;dsimp only[ca,na])|(refine CF 53 ?_;refine GP2 rfl (eU (by assumption) (by assumption) (hm.mono ML)) ?_;dsimp only[ca,na])|(refine CF 171 ?_;refine GR1 rfl (h3 _ ML) ?_;(rintro v3 μ3 c ⟨u3,rfl,h⟩;have o_u3:=h.one;have H3:MLe μ μ3:=MLe.trans ML c;have d:=d.mono c);dsimp only[ca,na])|refine KZ ?_|refine XS0 ?_|(refine XAP fun v=>?_;refine bB 2 rfl ?_;rintro A2 c2 rfl p)|refine NB fun b=>?_)
    all_goals refine dZ (f,ps++[(x3,u3)],s4,μ3,.slice A2 (ps.length+1) c2,pp) ⟨ML,Kids.app d (Kids.cons (h) (Kids.nil _)),z,fun e=>by dsimp only at e⊢;omega,fun e=>by dsimp only at e⊢;omega,by simp only[aB,aF,aL];omega,by dsimp only;rw[aE];exact hJ⟩ (by dsimp only;omega) rfl PU (by dsimp only;rw[aB,aD];exact PS)
   ·rw[if_neg j]at hJ;have aa:=eq_false_of_ne_true j;have ee3:cH E ⟨#[44]⟩ s3=s3:=by unfold cH;rw[if_neg (by simp[aa])]
    subst hJ;try dsimp only at u
    obtain⟨s4,e4,m4,l4,t4,o4⟩:=bW hE (mv0 l) ⟨#[125]⟩;have z:=m4.inn l;rw[e4]at u;subst u;try repeat' (first|refine PBF ?_|refine KO ?_|(refine CF 23 ?_;refine GP2 rfl (dD (by assumption) (hm.mono ML) _) ?_;dsimp only[ca,na])|(refine CF 65 ?_;refine GU2 rfl (dF (by assumption) (by assumption) (hm.mono ML)) ?_;intro v9;dsimp only[ca,na])|(refine CF 53 ?_;refine GP2 rfl (eU (by assumption) (by assumption) (hm.mono ML)) ?_;dsimp only[ca,na])|(refine CF 171 ?_;refine GR1 rfl (h3 _ ML) ?_;(rintro v3 μ3 c ⟨u3,rfl,h⟩;have o_u3:=h.one;have H3:MLe μ μ3:=MLe.trans ML c;have d:=d.mono c);dsimp only[ca,na])|refine KZ ?_|refine XS0 ?_|(refine XAP fun v=>?_;refine bB 2 rfl ?_;rintro A2 c2 rfl p)|refine NB fun b=>?_)
    all_goals(apply kT y rfl;exact(RG 4 rfl rfl rfl rfl rfl);exact aN rfl;exact rfl;exact .refl _;exact fun μ' hle x=>(by have h8:=KR.bI (bD (enc:=bV) (xs:=ps++[(x3,u3)]) (x _ (by exact(aS (aS (aA))))) (by simp) (by simp) (by rw[aD];rfl)) p.cap (Kids.app (d.mono hle) (Kids.single (h.mono hle)));rw[aE]at h8;exact h8))
 ·have ae:qA E r f pp (ps.map (·.1)) s2=((pp,ps.map (·.1)),s2):=by
   cases f with
   |zero=>rfl
   |succ f=>rw[qA,if_neg hc]
  rw[ae]at hJ;by_cases he:s2.e=0
  ·have hz:isR E s2 ⟨#[125]⟩=true:=by simpa[he]using hc
   subst hJ;try dsimp only at u
   obtain⟨s3,e3,m3,l3,t3,o3⟩:=bW hE (mv0 o) ⟨#[125]⟩;have l:=m3.inn o;rw[e3]at u;subst u;try repeat' (first|refine PBT ?_|refine KO ?_|(refine CF 23 ?_;refine GP2 rfl (dD (by assumption) (hm.mono ML) _) ?_;dsimp only[ca,na])|(refine CF 65 ?_;refine GU2 rfl (dF (by assumption) (by assumption) (hm.mono ML)) ?_;intro v9;dsimp only[ca,na])|refine KZ ?_)
   all_goals(apply kT y rfl;exact(RG 2 rfl rfl rfl rfl rfl);exact aN rfl;exact rfl;exact .refl _;exact fun μ' hle x=>KR.bI (bD (enc:=bV) (xs:=ps) (x _ (by exact(aA))) rfl (by simp) rfl) ad.cap (d.mono hle))
  ·subst hJ;try dsimp only at u
   obtain⟨s3,e3,m3,l3,t3,o3⟩:=bW hE (mv0 o) ⟨#[125]⟩;have l:=m3.inn o;rw[e3]at u;subst u;try repeat' (first|refine KO ?_|(refine CF 65 ?_;refine GU2 rfl (dF (by assumption) (by assumption) (hm.mono ML)) ?_;intro v9;dsimp only[ca,na])|refine KZ ?_)
   all_goals(apply kT y rfl;exact(RG 2 rfl rfl rfl rfl rfl);exact aN rfl;exact rfl;exact .refl _;exact fun μ' hle x=>KR.bI (bD (enc:=bV) (xs:=ps) (x _ (by exact(aA))) rfl (by simp) rfl) ad.cap (d.mono hle))
theorem LL(au:(aJ E s).k≠0)(hn:8*(E.ts.length-s.i)≤n+3):zCR E V xb 166 [.pointer (some ⟨xb,0,none⟩)] s (nO E r s).2 μ (fun μ' v=>TV μ' (nO E r s).1 v):=by
 intro w hμ hO;have ab:=bF hO.diff;have hl:=hi.lt;have av:=hm.few;generalize hq:nO E r s=q;unfold nO bd at hq;try dsimp only at hq
 obtain⟨s1,e1,m1,i1,t1,o1,-⟩:=aT hE (mv0 hi) au;have ao:=m1.inn hi;rw[e1]at hq;by_cases h1:isR E s1 ⟨#[41]⟩=true
 ·rw[if_pos h1]at hq;obtain⟨s2,e2,m2,i2,t2,o2,-⟩:=aT hE (mv0 ao) (cY h1);have al:=m2.inn ao;rw[e2]at hq;obtain⟨s3,e3,m3,l3,t3,o3⟩:=kV hE (mv0 al);have ai:=m3.inn al;rw[e3]at hq;subst hq;refine aC Tryz.func166 rfl Tryz.ntmps166 (by simp) hμ hO ?_;try repeat' (first|refine PBT ?_|refine KO ?_|(refine CF 23 ?_;refine GP2 rfl (dD (by assumption) (hm.mono ML) _) ?_;dsimp only[ca,na])|(refine CF 42 ?_;refine GP1 rfl (bN (by assumption) (by assumption) (hm.mono ML)) ?_;dsimp only[ca,na])|(refine CF 26 ?_;refine GU1 rfl (lY (by assumption) (by assumption) (hm.mono ML)) ?_;intro v9;dsimp only[ca,na])|refine KZ ?_|refine NB fun b=>?_)
  all_goals(apply aX ab rfl;exact(RG 0 rfl rfl rfl rfl rfl);exact rfl;exact .refl _;exact fun μ' hle af=>KR.nil _ _ _)
 ·rw [if_neg h1]at hq;have aw:=eq_false_of_ne_true h1;generalize hQ:oT E r (E.ts.length+1) (-1) [] s1=Q at hq;refine aC Tryz.func166 rfl Tryz.ntmps166 (by simp) hμ hO ?_;try repeat' (first|refine PBF ?_|refine KO ?_|(refine CF 23 ?_;refine GP2 rfl (dD (by assumption) (hm.mono ML) _) ?_;dsimp only[ca,na])|(refine CF 42 ?_;refine GP1 rfl (bN (by assumption) (by assumption) (hm.mono ML)) ?_;dsimp only[ca,na])|refine KZ ?_|refine NB fun b=>?_)
  refine dH (ι:=Nat×List (T×Value)×RdS×Mem×Value×Int) (fun i=>MLe μ i.2.2.2.1∧Kids i.2.2.2.1 i.2.1∧In E src i.2.2.1∧(8*(E.ts.length-i.2.2.1.i)+5≤n)∧(E.ts.length-i.2.2.1.i<i.1)∧i.2.1.length+i.1=E.ts.length+1∧Q=oT E r i.1 i.2.2.2.2.2 (i.2.1.map (·.1)) i.2.2.1)
   (fun i=>i.1) (fun i=>i.2.2.2.1) (fun i=>[(0,.pointer (some ⟨xb,0,none⟩)),(2,.pointer (some ⟨b,0,none⟩)),(3,.int .i64 i.2.2.2.2.2),(4,i.2.2.2.2.1)]) (fun i=>[.inr ⟨i.2.2.2.2.1,25,6,i.2.1.length,i.2.1.flatMap bV⟩,.inl ⟨b,25,6,[]⟩,RB E V xb i.2.2.1])
   (E.ts.length+1,[],s1,μ,.slice none 0 0,(-1)) ⟨by exact MLe.refl _,(Kids.nil _),ao,by dsimp only;omega,by dsimp only;omega,by simp;try omega,hQ.symm⟩ (fun a w hs=>(hs.kU 25 6).sel PU PS) ?_
  rintro⟨f,ps,s2,μ2,v,pp⟩ ⟨H2,d,al,ar,hf,hlen,hJ⟩;dsimp only at H2 d al ar hf hlen hJ⊢;have t2:=al.lt;refine iZ 0 rfl ?_;rintro A1 c1 rfl ag;obtain⟨f,rfl⟩:∃g,f=g+1:=⟨f-1,by omega⟩;rw[oT]at hJ;unfold bd at hJ;dsimp only at hJ;have h3:=fun(μ9:Mem) (h9:MLe μ μ9)=>hw.asg true 1 _ μ9 al (fun h=>absurd h (by decide)) (by omega) (hm.mono h9);have m3:=(hr.asg true 1 _ al (fun h=>absurd h (by decide)) (by omega)).mv;generalize r.asg true 1 s2=p9 at hJ h3 m3;obtain⟨x3,s3⟩:=p9;dsimp only at hJ h3 m3;have ai:=m3.inn al;have l3:=m3.le;have t3:=m3.lt;by_cases hp:pp<0
  ·rw [if_pos hp]at hJ;by_cases aj:s3.e=0∧isR E s3 ⟨#[44]⟩=true
   ·rw[if_pos aj]at hJ;obtain⟨aq,ap⟩:=id aj;have ee4:cH E ⟨#[44]⟩ s3=bJ E s3:=by unfold cH;rw[if_pos aj.2]
    obtain⟨s4,e4,m4,i4,t4,o4,-⟩:=aT hE (mv0 ai) (cY aj.2);have ak:=m4.inn ai;rw[e4]at hJ;rw[e4]at ee4;try repeat' (first|refine PBT ?_|refine KO ?_|(refine CF 53 ?_;refine GP2 rfl (eU (by assumption) (by assumption) (hm.mono ML)) ?_;dsimp only[ca,na])|(refine CF 168 ?_;refine GP2 rfl (gZ _) ?_;dsimp only[ca,na])|(refine CF 35 ?_;refine GR3 rfl (h3 _ ML) ?_;(rintro v3 μ3 l ⟨u3,rfl,j⟩;have o_u3:=j.one;have H3:MLe μ μ3:=MLe.trans ML l;have d:=d.mono l);dsimp only[ca,na])|refine KZ ?_|(refine XAP fun v=>?_;refine bB 1 rfl ?_;rintro A2 c2 rfl u)|refine NB fun b=>?_)
    all_goals refine dZ (f,ps++[(x3,u3)],s4,μ3,.slice A2 (ps.length+1) c2,lR s2.i s3) ⟨ML,Kids.app d (Kids.cons (j) (Kids.nil _)),ak,by dsimp only;omega,by dsimp only;omega,by simp only[aB,aF,aL];omega,by dsimp only;rw[aE];exact hJ⟩ (by dsimp only;omega) rfl PU (by dsimp only;rw[aB,aD];exact PS)
   ·rw [if_neg aj]at hJ;by_cases he:s3.e=0
    ·have hz:isR E s3 ⟨#[44]⟩=false:=by simpa[he]using aj
     have ee3:cH E ⟨#[44]⟩ s3=s3:=by unfold cH;rw[if_neg (by simp[hz])]
     subst hJ;try dsimp only at hq
     obtain⟨s4,e4,m4,l4,t4,o4⟩:=bW hE (mv0 ai) ⟨#[41]⟩;have ak:=m4.inn ai;rw[e4]at hq;by_cases h0:0≤lR s2.i s3
     ·rw[if_pos h0]at hq;obtain⟨s5,e5,an,l5,t5⟩:=lN hE ak (lR s2.i s3) (23);rw[e5]at hq;rcases ps with _|⟨p,ps⟩
      ·simp only[cN,jK]at hq;subst hq;try repeat' (first|refine PBF ?_|((with_reducible show GC _ _ (Code.seq (Code.seq (Code.region 17 _ _) _) _) _ _ _ _);(apply dE))|refine KO ?_|(refine CF 65 ?_;refine GU2 rfl (dF (by assumption) (by assumption) (hm.mono ML)) ?_;intro v9;dsimp only[ca,na])|(refine CF 53 ?_;refine GP2 rfl (eU (by assumption) (by assumption) (hm.mono ML)) ?_;dsimp only[ca,na])|(refine CF 46 ?_;refine GU3 rfl (mC (by assumption) (by assumption) (hm.mono ML)) ?_;intro v9;dsimp only[ca,na])|(refine CF 168 ?_;refine GP2 rfl (gZ _) ?_;dsimp only[ca,na])|(refine CF 35 ?_;refine GR3 rfl (h3 _ ML) ?_;(rintro v3 μ3 l ⟨u3,rfl,j⟩;have o_u3:=j.one;have H3:MLe μ μ3:=MLe.trans ML l;have d:=d.mono l);dsimp only[ca,na])|refine KZ ?_|(refine XAP fun v=>?_;refine bB 1 rfl ?_;rintro A2 c2 rfl u)|refine NB fun b=>?_)
       all_goals refine gB rfl ?_
       all_goals rintro μ9 o x
       all_goals have d:=d.mono o
       all_goals have j:=j.mono o
       all_goals have z:=(by have h8:=KR.bI (bD (enc:=bV) (xs:=[]++[(x3,u3)]) x (by simp) (by simp) (by rw[aD];rfl)) u.cap (Kids.app d (Kids.single j));rw[aE]at h8;exact h8)
       all_goals obtain⟨Ak,ck,ek,ah,y⟩:=z.form
       all_goals injection ek with ea en ec
       all_goals subst ea ec
       all_goals obtain⟨ad,xk,eA,aa,ag,ae⟩:=y 0 x3 rfl
       all_goals cases eA
       all_goals try repeat' (first|refine KO ?_|refine XS1 ?_|(refine KV (b:=by first|exact U1 0|exact U4 aa) (c:=?_)))
       all_goals(apply aX ab rfl;exact(RG 1 rfl rfl rfl rfl rfl);exact rfl;exact .refl _;exact fun μ' hle af=>ae.mono hle)
      ·obtain⟨x9,xs9,ex9⟩:∃x9 xs9,ps.map (·.1)++[x3]=x9::xs9:=by cases ps<;>exact⟨_,_,rfl⟩
       rw[bE,kY,ex9]at hq;dsimp only at hq;rw[←ex9]at hq;subst hq;try repeat' (first|refine PBF ?_|((with_reducible show GC _ _ (Code.seq (Code.seq (Code.region 17 _ _) _) _) _ _ _ _);(apply dE))|refine KO ?_|(refine CF 65 ?_;refine GU2 rfl (dF (by assumption) (by assumption) (hm.mono ML)) ?_;intro v9;dsimp only[ca,na])|(refine CF 53 ?_;refine GP2 rfl (eU (by assumption) (by assumption) (hm.mono ML)) ?_;dsimp only[ca,na])|(refine CF 46 ?_;refine GU3 rfl (mC (by assumption) (by assumption) (hm.mono ML)) ?_;intro v9;dsimp only[ca,na])|(refine CF 168 ?_;refine GP2 rfl (gZ _) ?_;dsimp only[ca,na])|(refine CF 35 ?_;refine GR3 rfl (h3 _ ML) ?_;(rintro v3 μ3 l ⟨u3,rfl,j⟩;have o_u3:=j.one;have H3:MLe μ μ3:=MLe.trans ML l;have d:=d.mono l);dsimp only[ca,na])|refine KZ ?_|(refine XAP fun v=>?_;refine bB 1 rfl ?_;rintro A2 c2 rfl u)|refine NB fun b=>?_)
       all_goals refine gB rfl ?_
       all_goals rintro μ9 o x
       all_goals have d:=d.mono o
       all_goals have j:=j.mono o
       all_goals have z:=(by have h8:=KR.bI (bD (enc:=bV) (xs:=(p::ps)++[(x3,u3)]) x (by simp) (by simp) (by rw[aD];rfl)) u.cap (Kids.app d (Kids.single j));rw[aE]at h8;exact h8)
       all_goals obtain⟨Ak,ck,ek,ah,y⟩:=z.form
       all_goals injection ek with ea en ec
       all_goals subst ea ec
       all_goals obtain⟨ad,xk,eA,aa,ag,ae⟩:=y 0 p.1 rfl
       all_goals cases eA
       all_goals try repeat' (first|refine KO ?_|(refine KV (b:=by first|exact U1 0|exact U4 aa) (c:=?_))|refine KZ ?_)
       all_goals(apply aX ab rfl;exact(RG 1 rfl rfl rfl rfl rfl);exact rfl;exact .refl _;exact fun μ' hle af=>z.mono hle)
     ·rw[if_neg h0]at hq;rcases ps with _|⟨p,ps⟩
      ·simp only[cN,jK]at hq;subst hq;try repeat' (first|refine PBF ?_|((with_reducible show GC _ _ (Code.seq (Code.seq (Code.region 17 _ _) _) _) _ _ _ _);(apply dE))|refine KO ?_|(refine CF 65 ?_;refine GU2 rfl (dF (by assumption) (by assumption) (hm.mono ML)) ?_;intro v9;dsimp only[ca,na])|(refine CF 53 ?_;refine GP2 rfl (eU (by assumption) (by assumption) (hm.mono ML)) ?_;dsimp only[ca,na])|(refine CF 168 ?_;refine GP2 rfl (gZ _) ?_;dsimp only[ca,na])|(refine CF 35 ?_;refine GR3 rfl (h3 _ ML) ?_;(rintro v3 μ3 l ⟨u3,rfl,j⟩;have o_u3:=j.one;have H3:MLe μ μ3:=MLe.trans ML l;have d:=d.mono l);dsimp only[ca,na])|refine KZ ?_|(refine XAP fun v=>?_;refine bB 1 rfl ?_;rintro A2 c2 rfl u)|refine NB fun b=>?_)
       all_goals refine gB rfl ?_
       all_goals rintro μ9 o x
       all_goals have d:=d.mono o
       all_goals have j:=j.mono o
       all_goals have z:=(by have h8:=KR.bI (bD (enc:=bV) (xs:=[]++[(x3,u3)]) x (by simp) (by simp) (by rw[aD];rfl)) u.cap (Kids.app d (Kids.single j));rw[aE]at h8;exact h8)
       all_goals obtain⟨Ak,ck,ek,ah,y⟩:=z.form
       all_goals injection ek with ea en ec
       all_goals subst ea ec
       all_goals obtain⟨ad,xk,eA,aa,ag,ae⟩:=y 0 x3 rfl
       all_goals cases eA
       all_goals try repeat' (first|refine KO ?_|refine XS1 ?_|(refine KV (b:=by first|exact U1 0|exact U4 aa) (c:=?_)))
       all_goals(apply aX ab rfl;exact(RG 1 rfl rfl rfl rfl rfl);exact rfl;exact .refl _;exact fun μ' hle af=>ae.mono hle)
      ·obtain⟨x9,xs9,ex9⟩:∃x9 xs9,ps.map (·.1)++[x3]=x9::xs9:=by cases ps<;>exact⟨_,_,rfl⟩
       rw[bE,kY,ex9]at hq;dsimp only at hq;rw[←ex9]at hq;subst hq;try repeat' (first|refine PBF ?_|((with_reducible show GC _ _ (Code.seq (Code.seq (Code.region 17 _ _) _) _) _ _ _ _);(apply dE))|refine KO ?_|(refine CF 65 ?_;refine GU2 rfl (dF (by assumption) (by assumption) (hm.mono ML)) ?_;intro v9;dsimp only[ca,na])|(refine CF 53 ?_;refine GP2 rfl (eU (by assumption) (by assumption) (hm.mono ML)) ?_;dsimp only[ca,na])|(refine CF 168 ?_;refine GP2 rfl (gZ _) ?_;dsimp only[ca,na])|(refine CF 35 ?_;refine GR3 rfl (h3 _ ML) ?_;(rintro v3 μ3 l ⟨u3,rfl,j⟩;have o_u3:=j.one;have H3:MLe μ μ3:=MLe.trans ML l;have d:=d.mono l);dsimp only[ca,na])|refine KZ ?_|(refine XAP fun v=>?_;refine bB 1 rfl ?_;rintro A2 c2 rfl u)|refine NB fun b=>?_)
       all_goals refine gB rfl ?_
       all_goals rintro μ9 o x
       all_goals have d:=d.mono o
       all_goals have j:=j.mono o
       all_goals have z:=(by have h8:=KR.bI (bD (enc:=bV) (xs:=(p::ps)++[(x3,u3)]) x (by simp) (by simp) (by rw[aD];rfl)) u.cap (Kids.app d (Kids.single j));rw[aE]at h8;exact h8)
       all_goals obtain⟨Ak,ck,ek,ah,y⟩:=z.form
       all_goals injection ek with ea en ec
       all_goals subst ea ec
       all_goals obtain⟨ad,xk,eA,aa,ag,ae⟩:=y 0 p.1 rfl
       all_goals cases eA
       all_goals try repeat' (first|refine KO ?_|(refine KV (b:=by first|exact U1 0|exact U4 aa) (c:=?_))|refine KZ ?_)
       all_goals(apply aX ab rfl;exact(RG 1 rfl rfl rfl rfl rfl);exact rfl;exact .refl _;exact fun μ' hle af=>z.mono hle)
    ·subst hJ;try dsimp only at hq
     obtain⟨s4,e4,m4,l4,t4,o4⟩:=bW hE (mv0 ai) ⟨#[41]⟩;have ak:=m4.inn ai;rw[e4]at hq;by_cases h0:0≤lR s2.i s3
     ·rw[if_pos h0]at hq;obtain⟨s5,e5,an,l5,t5⟩:=lN hE ak (lR s2.i s3) (23);rw[e5]at hq;rcases ps with _|⟨p,ps⟩
      ·simp only[cN,jK]at hq;subst hq;try repeat' (first|((with_reducible show GC _ _ (Code.seq (Code.seq (Code.region 17 _ _) _) _) _ _ _ _);(apply dE))|refine KO ?_|(refine CF 65 ?_;refine GU2 rfl (dF (by assumption) (by assumption) (hm.mono ML)) ?_;intro v9;dsimp only[ca,na])|(refine CF 46 ?_;refine GU3 rfl (mC (by assumption) (by assumption) (hm.mono ML)) ?_;intro v9;dsimp only[ca,na])|(refine CF 168 ?_;refine GP2 rfl (gZ _) ?_;dsimp only[ca,na])|(refine CF 35 ?_;refine GR3 rfl (h3 _ ML) ?_;(rintro v3 μ3 l ⟨u3,rfl,j⟩;have o_u3:=j.one;have H3:MLe μ μ3:=MLe.trans ML l;have d:=d.mono l);dsimp only[ca,na])|refine KZ ?_|(refine XAP fun v=>?_;refine bB 1 rfl ?_;rintro A2 c2 rfl u)|refine NB fun b=>?_)
       all_goals refine gB rfl ?_
       all_goals rintro μ9 o x
       all_goals have d:=d.mono o
       all_goals have j:=j.mono o
       all_goals have z:=(by have h8:=KR.bI (bD (enc:=bV) (xs:=[]++[(x3,u3)]) x (by simp) (by simp) (by rw[aD];rfl)) u.cap (Kids.app d (Kids.single j));rw[aE]at h8;exact h8)
       all_goals obtain⟨Ak,ck,ek,ah,y⟩:=z.form
       all_goals injection ek with ea en ec
       all_goals subst ea ec
       all_goals obtain⟨ad,xk,eA,aa,ag,ae⟩:=y 0 x3 rfl
       all_goals cases eA
       all_goals try repeat' (first|refine KO ?_|refine XS1 ?_|(refine KV (b:=by first|exact U1 0|exact U4 aa) (c:=?_)))
       all_goals(apply aX ab rfl;exact(RG 1 rfl rfl rfl rfl rfl);exact rfl;exact .refl _;exact fun μ' hle af=>ae.mono hle)
      ·obtain⟨x9,xs9,ex9⟩:∃x9 xs9,ps.map (·.1)++[x3]=x9::xs9:=by cases ps<;>exact⟨_,_,rfl⟩
       rw[bE,kY,ex9]at hq;dsimp only at hq;rw[←ex9]at hq;subst hq;try repeat' (first|((with_reducible show GC _ _ (Code.seq (Code.seq (Code.region 17 _ _) _) _) _ _ _ _);(apply dE))|refine KO ?_|(refine CF 65 ?_;refine GU2 rfl (dF (by assumption) (by assumption) (hm.mono ML)) ?_;intro v9;dsimp only[ca,na])|(refine CF 46 ?_;refine GU3 rfl (mC (by assumption) (by assumption) (hm.mono ML)) ?_;intro v9;dsimp only[ca,na])|(refine CF 168 ?_;refine GP2 rfl (gZ _) ?_;dsimp only[ca,na])|(refine CF 35 ?_;refine GR3 rfl (h3 _ ML) ?_;(rintro v3 μ3 l ⟨u3,rfl,j⟩;have o_u3:=j.one;have H3:MLe μ μ3:=MLe.trans ML l;have d:=d.mono l);dsimp only[ca,na])|refine KZ ?_|(refine XAP fun v=>?_;refine bB 1 rfl ?_;rintro A2 c2 rfl u)|refine NB fun b=>?_)
       all_goals refine gB rfl ?_
       all_goals rintro μ9 o x
       all_goals have d:=d.mono o
       all_goals have j:=j.mono o
       all_goals have z:=(by have h8:=KR.bI (bD (enc:=bV) (xs:=(p::ps)++[(x3,u3)]) x (by simp) (by simp) (by rw[aD];rfl)) u.cap (Kids.app d (Kids.single j));rw[aE]at h8;exact h8)
       all_goals obtain⟨Ak,ck,ek,ah,y⟩:=z.form
       all_goals injection ek with ea en ec
       all_goals subst ea ec
       all_goals obtain⟨ad,xk,eA,aa,ag,ae⟩:=y 0 p.1 rfl
       all_goals cases eA
       all_goals try repeat' (first|refine KO ?_|(refine KV (b:=by first|exact U1 0|exact U4 aa) (c:=?_))|refine KZ ?_)
       all_goals(apply aX ab rfl;exact(RG 1 rfl rfl rfl rfl rfl);exact rfl;exact .refl _;exact fun μ' hle af=>z.mono hle)
     ·rw[if_neg h0]at hq;rcases ps with _|⟨p,ps⟩
      ·simp only[cN,jK]at hq;subst hq;try repeat' (first|((with_reducible show GC _ _ (Code.seq (Code.seq (Code.region 17 _ _) _) _) _ _ _ _);(apply dE))|refine KO ?_|(refine CF 65 ?_;refine GU2 rfl (dF (by assumption) (by assumption) (hm.mono ML)) ?_;intro v9;dsimp only[ca,na])|(refine CF 168 ?_;refine GP2 rfl (gZ _) ?_;dsimp only[ca,na])|(refine CF 35 ?_;refine GR3 rfl (h3 _ ML) ?_;(rintro v3 μ3 l ⟨u3,rfl,j⟩;have o_u3:=j.one;have H3:MLe μ μ3:=MLe.trans ML l;have d:=d.mono l);dsimp only[ca,na])|refine KZ ?_|(refine XAP fun v=>?_;refine bB 1 rfl ?_;rintro A2 c2 rfl u)|refine NB fun b=>?_)
       all_goals refine gB rfl ?_
       all_goals rintro μ9 o x
       all_goals have d:=d.mono o
       all_goals have j:=j.mono o
       all_goals have z:=(by have h8:=KR.bI (bD (enc:=bV) (xs:=[]++[(x3,u3)]) x (by simp) (by simp) (by rw[aD];rfl)) u.cap (Kids.app d (Kids.single j));rw[aE]at h8;exact h8)
       all_goals obtain⟨Ak,ck,ek,ah,y⟩:=z.form
       all_goals injection ek with ea en ec
       all_goals subst ea ec
       all_goals obtain⟨ad,xk,eA,aa,ag,ae⟩:=y 0 x3 rfl
       all_goals cases eA
       all_goals try repeat' (first|refine KO ?_|refine XS1 ?_|(refine KV (b:=by first|exact U1 0|exact U4 aa) (c:=?_)))
       all_goals(apply aX ab rfl;exact(RG 1 rfl rfl rfl rfl rfl);exact rfl;exact .refl _;exact fun μ' hle af=>ae.mono hle)
      ·obtain⟨x9,xs9,ex9⟩:∃x9 xs9,ps.map (·.1)++[x3]=x9::xs9:=by cases ps<;>exact⟨_,_,rfl⟩
       rw[bE,kY,ex9]at hq;dsimp only at hq;rw[←ex9]at hq;subst hq;try repeat' (first|((with_reducible show GC _ _ (Code.seq (Code.seq (Code.region 17 _ _) _) _) _ _ _ _);(apply dE))|refine KO ?_|(refine CF 65 ?_;refine GU2 rfl (dF (by assumption) (by assumption) (hm.mono ML)) ?_;intro v9;dsimp only[ca,na])|(refine CF 168 ?_;refine GP2 rfl (gZ _) ?_;dsimp only[ca,na])|(refine CF 35 ?_;refine GR3 rfl (h3 _ ML) ?_;(rintro v3 μ3 l ⟨u3,rfl,j⟩;have o_u3:=j.one;have H3:MLe μ μ3:=MLe.trans ML l;have d:=d.mono l);dsimp only[ca,na])|refine KZ ?_|(refine XAP fun v=>?_;refine bB 1 rfl ?_;rintro A2 c2 rfl u)|refine NB fun b=>?_)
       all_goals refine gB rfl ?_
       all_goals rintro μ9 o x
       all_goals have d:=d.mono o
       all_goals have j:=j.mono o
       all_goals have z:=(by have h8:=KR.bI (bD (enc:=bV) (xs:=(p::ps)++[(x3,u3)]) x (by simp) (by simp) (by rw[aD];rfl)) u.cap (Kids.app d (Kids.single j));rw[aE]at h8;exact h8)
       all_goals obtain⟨Ak,ck,ek,ah,y⟩:=z.form
       all_goals injection ek with ea en ec
       all_goals subst ea ec
       all_goals obtain⟨ad,xk,eA,aa,ag,ae⟩:=y 0 p.1 rfl
       all_goals cases eA
       all_goals try repeat' (first|refine KO ?_|(refine KV (b:=by first|exact U1 0|exact U4 aa) (c:=?_))|refine KZ ?_)
       all_goals(apply aX ab rfl;exact(RG 1 rfl rfl rfl rfl rfl);exact rfl;exact .refl _;exact fun μ' hle af=>z.mono hle)
  ·rw [if_neg hp]at hJ;by_cases aj:s3.e=0∧isR E s3 ⟨#[44]⟩=true
   ·rw[if_pos aj]at hJ;obtain⟨aq,ap⟩:=id aj;have ee4:cH E ⟨#[44]⟩ s3=bJ E s3:=by unfold cH;rw[if_pos aj.2]
    obtain⟨s4,e4,m4,i4,t4,o4,-⟩:=aT hE (mv0 ai) (cY aj.2);have ak:=m4.inn ai;rw[e4]at hJ;rw[e4]at ee4;try repeat' (first|refine PBT ?_|refine KO ?_|(refine CF 53 ?_;refine GP2 rfl (eU (by assumption) (by assumption) (hm.mono ML)) ?_;dsimp only[ca,na])|(refine CF 168 ?_;refine GP2 rfl (gZ _) ?_;dsimp only[ca,na])|(refine CF 35 ?_;refine GR3 rfl (h3 _ ML) ?_;(rintro v3 μ3 l ⟨u3,rfl,j⟩;have o_u3:=j.one;have H3:MLe μ μ3:=MLe.trans ML l;have d:=d.mono l);dsimp only[ca,na])|refine KZ ?_|(refine XAP fun v=>?_;refine bB 1 rfl ?_;rintro A2 c2 rfl u)|refine NB fun b=>?_)
    all_goals refine dZ (f,ps++[(x3,u3)],s4,μ3,.slice A2 (ps.length+1) c2,pp) ⟨ML,Kids.app d (Kids.cons (j) (Kids.nil _)),ak,by dsimp only;omega,by dsimp only;omega,by simp only[aB,aF,aL];omega,by dsimp only;rw[aE];exact hJ⟩ (by dsimp only;omega) rfl PU (by dsimp only;rw[aB,aD];exact PS)
   ·rw [if_neg aj]at hJ;by_cases he:s3.e=0
    ·have hz:isR E s3 ⟨#[44]⟩=false:=by simpa[he]using aj
     have ee3:cH E ⟨#[44]⟩ s3=s3:=by unfold cH;rw[if_neg (by simp[hz])]
     subst hJ;try dsimp only at hq
     obtain⟨s4,e4,m4,l4,t4,o4⟩:=bW hE (mv0 ai) ⟨#[41]⟩;have ak:=m4.inn ai;rw[e4]at hq;by_cases h0:0≤pp
     ·rw[if_pos h0]at hq;obtain⟨s5,e5,an,l5,t5⟩:=lN hE ak (pp) (23);rw[e5]at hq;rcases ps with _|⟨p,ps⟩
      ·simp only[cN,jK]at hq;subst hq;try repeat' (first|refine PBF ?_|((with_reducible show GC _ _ (Code.seq (Code.seq (Code.region 17 _ _) _) _) _ _ _ _);(apply dE))|refine KO ?_|(refine CF 65 ?_;refine GU2 rfl (dF (by assumption) (by assumption) (hm.mono ML)) ?_;intro v9;dsimp only[ca,na])|(refine CF 53 ?_;refine GP2 rfl (eU (by assumption) (by assumption) (hm.mono ML)) ?_;dsimp only[ca,na])|(refine CF 46 ?_;refine GU3 rfl (mC (by assumption) (by assumption) (hm.mono ML)) ?_;intro v9;dsimp only[ca,na])|(refine CF 168 ?_;refine GP2 rfl (gZ _) ?_;dsimp only[ca,na])|(refine CF 35 ?_;refine GR3 rfl (h3 _ ML) ?_;(rintro v3 μ3 l ⟨u3,rfl,j⟩;have o_u3:=j.one;have H3:MLe μ μ3:=MLe.trans ML l;have d:=d.mono l);dsimp only[ca,na])|refine KZ ?_|(refine XAP fun v=>?_;refine bB 1 rfl ?_;rintro A2 c2 rfl u)|refine NB fun b=>?_)
       all_goals refine gB rfl ?_
       all_goals rintro μ9 o x
       all_goals have d:=d.mono o
       all_goals have j:=j.mono o
       all_goals have z:=(by have h8:=KR.bI (bD (enc:=bV) (xs:=[]++[(x3,u3)]) x (by simp) (by simp) (by rw[aD];rfl)) u.cap (Kids.app d (Kids.single j));rw[aE]at h8;exact h8)
       all_goals obtain⟨Ak,ck,ek,ah,y⟩:=z.form
       all_goals injection ek with ea en ec
       all_goals subst ea ec
       all_goals obtain⟨ad,xk,eA,aa,ag,ae⟩:=y 0 x3 rfl
       all_goals cases eA
       all_goals try repeat' (first|refine KO ?_|refine XS1 ?_|(refine KV (b:=by first|exact U1 0|exact U4 aa) (c:=?_)))
       all_goals(apply aX ab rfl;exact(RG 1 rfl rfl rfl rfl rfl);exact rfl;exact .refl _;exact fun μ' hle af=>ae.mono hle)
      ·obtain⟨x9,xs9,ex9⟩:∃x9 xs9,ps.map (·.1)++[x3]=x9::xs9:=by cases ps<;>exact⟨_,_,rfl⟩
       rw[bE,kY,ex9]at hq;dsimp only at hq;rw[←ex9]at hq;subst hq;try repeat' (first|refine PBF ?_|((with_reducible show GC _ _ (Code.seq (Code.seq (Code.region 17 _ _) _) _) _ _ _ _);(apply dE))|refine KO ?_|(refine CF 65 ?_;refine GU2 rfl (dF (by assumption) (by assumption) (hm.mono ML)) ?_;intro v9;dsimp only[ca,na])|(refine CF 53 ?_;refine GP2 rfl (eU (by assumption) (by assumption) (hm.mono ML)) ?_;dsimp only[ca,na])|(refine CF 46 ?_;refine GU3 rfl (mC (by assumption) (by assumption) (hm.mono ML)) ?_;intro v9;dsimp only[ca,na])|(refine CF 168 ?_;refine GP2 rfl (gZ _) ?_;dsimp only[ca,na])|(refine CF 35 ?_;refine GR3 rfl (h3 _ ML) ?_;(rintro v3 μ3 l ⟨u3,rfl,j⟩;have o_u3:=j.one;have H3:MLe μ μ3:=MLe.trans ML l;have d:=d.mono l);dsimp only[ca,na])|refine KZ ?_|(refine XAP fun v=>?_;refine bB 1 rfl ?_;rintro A2 c2 rfl u)|refine NB fun b=>?_)
       all_goals refine gB rfl ?_
       all_goals rintro μ9 o x
       all_goals have d:=d.mono o
       all_goals have j:=j.mono o
       all_goals have z:=(by have h8:=KR.bI (bD (enc:=bV) (xs:=(p::ps)++[(x3,u3)]) x (by simp) (by simp) (by rw[aD];rfl)) u.cap (Kids.app d (Kids.single j));rw[aE]at h8;exact h8)
       all_goals obtain⟨Ak,ck,ek,ah,y⟩:=z.form
       all_goals injection ek with ea en ec
       all_goals subst ea ec
       all_goals obtain⟨ad,xk,eA,aa,ag,ae⟩:=y 0 p.1 rfl
       all_goals cases eA
       all_goals try repeat' (first|refine KO ?_|(refine KV (b:=by first|exact U1 0|exact U4 aa) (c:=?_))|refine KZ ?_)
       all_goals(apply aX ab rfl;exact(RG 1 rfl rfl rfl rfl rfl);exact rfl;exact .refl _;exact fun μ' hle af=>z.mono hle)
     ·rw[if_neg h0]at hq;rcases ps with _|⟨p,ps⟩
      ·simp only[cN,jK]at hq;subst hq;try repeat' (first|refine KO ?_|(refine CF 65 ?_;refine GU2 rfl (dF (by assumption) (by assumption) (hm.mono ML)) ?_;intro v9;dsimp only[ca,na])|(refine CF 168 ?_;refine GP2 rfl (gZ _) ?_;dsimp only[ca,na])|(refine CF 35 ?_;refine GR3 rfl (h3 _ ML) ?_;(rintro v3 μ3 l ⟨u3,rfl,j⟩;have o_u3:=j.one;have H3:MLe μ μ3:=MLe.trans ML l;have d:=d.mono l);dsimp only[ca,na])|refine KZ ?_|(refine XAP fun v=>?_;refine bB 1 rfl ?_;rintro A2 c2 rfl u)|refine NB fun b=>?_)
       all_goals try(exfalso;omega)
       all_goals refine gB rfl ?_
       all_goals rintro μ9 o x
       all_goals have d:=d.mono o
       all_goals have j:=j.mono o
       all_goals have z:=(by have h8:=KR.bI (bD (enc:=bV) (xs:=[]++[(x3,u3)]) x (by simp) (by simp) (by rw[aD];rfl)) u.cap (Kids.app d (Kids.single j));rw[aE]at h8;exact h8)
       all_goals obtain⟨Ak,ck,ek,ah,y⟩:=z.form
       all_goals injection ek with ea en ec
       all_goals subst ea ec
       all_goals obtain⟨ad,xk,eA,aa,ag,ae⟩:=y 0 x3 rfl
       all_goals cases eA
       all_goals(apply aX ab rfl;(first|fail);exact rfl;(first|fail);exact fun μ' hle af=>ae.mono hle)
      ·obtain⟨x9,xs9,ex9⟩:∃x9 xs9,ps.map (·.1)++[x3]=x9::xs9:=by cases ps<;>exact⟨_,_,rfl⟩
       rw[bE,kY,ex9]at hq;dsimp only at hq;rw[←ex9]at hq;subst hq;try repeat' (first|refine KO ?_|(refine CF 65 ?_;refine GU2 rfl (dF (by assumption) (by assumption) (hm.mono ML)) ?_;intro v9;dsimp only[ca,na])|(refine CF 168 ?_;refine GP2 rfl (gZ _) ?_;dsimp only[ca,na])|(refine CF 35 ?_;refine GR3 rfl (h3 _ ML) ?_;(rintro v3 μ3 l ⟨u3,rfl,j⟩;have o_u3:=j.one;have H3:MLe μ μ3:=MLe.trans ML l;have d:=d.mono l);dsimp only[ca,na])|refine KZ ?_|(refine XAP fun v=>?_;refine bB 1 rfl ?_;rintro A2 c2 rfl u)|refine NB fun b=>?_)
       all_goals try(exfalso;omega)
       all_goals refine gB rfl ?_
       all_goals rintro μ9 o x
       all_goals have d:=d.mono o
       all_goals have j:=j.mono o
       all_goals have z:=(by have h8:=KR.bI (bD (enc:=bV) (xs:=(p::ps)++[(x3,u3)]) x (by simp) (by simp) (by rw[aD];rfl)) u.cap (Kids.app d (Kids.single j));rw[aE]at h8;exact h8)
       all_goals obtain⟨Ak,ck,ek,ah,y⟩:=z.form
       all_goals injection ek with ea en ec
       all_goals subst ea ec
       all_goals obtain⟨ad,xk,eA,aa,ag,ae⟩:=y 0 p.1 rfl
       all_goals cases eA
       all_goals(apply aX ab rfl;(first|fail);exact rfl;(first|fail);exact fun μ' hle af=>z.mono hle)
    ·subst hJ;try dsimp only at hq
     obtain⟨s4,e4,m4,l4,t4,o4⟩:=bW hE (mv0 ai) ⟨#[41]⟩;have ak:=m4.inn ai;rw[e4]at hq;by_cases h0:0≤pp
     ·rw[if_pos h0]at hq;obtain⟨s5,e5,an,l5,t5⟩:=lN hE ak (pp) (23);rw[e5]at hq;rcases ps with _|⟨p,ps⟩
      ·simp only[cN,jK]at hq;subst hq;try repeat' (first|((with_reducible show GC _ _ (Code.seq (Code.seq (Code.region 17 _ _) _) _) _ _ _ _);(apply dE))|refine KO ?_|(refine CF 65 ?_;refine GU2 rfl (dF (by assumption) (by assumption) (hm.mono ML)) ?_;intro v9;dsimp only[ca,na])|(refine CF 46 ?_;refine GU3 rfl (mC (by assumption) (by assumption) (hm.mono ML)) ?_;intro v9;dsimp only[ca,na])|(refine CF 168 ?_;refine GP2 rfl (gZ _) ?_;dsimp only[ca,na])|(refine CF 35 ?_;refine GR3 rfl (h3 _ ML) ?_;(rintro v3 μ3 l ⟨u3,rfl,j⟩;have o_u3:=j.one;have H3:MLe μ μ3:=MLe.trans ML l;have d:=d.mono l);dsimp only[ca,na])|refine KZ ?_|(refine XAP fun v=>?_;refine bB 1 rfl ?_;rintro A2 c2 rfl u)|refine NB fun b=>?_)
       all_goals refine gB rfl ?_
       all_goals rintro μ9 o x
       all_goals have d:=d.mono o
       all_goals have j:=j.mono o
       all_goals have z:=(by have h8:=KR.bI (bD (enc:=bV) (xs:=[]++[(x3,u3)]) x (by simp) (by simp) (by rw[aD];rfl)) u.cap (Kids.app d (Kids.single j));rw[aE]at h8;exact h8)
       all_goals obtain⟨Ak,ck,ek,ah,y⟩:=z.form
       all_goals injection ek with ea en ec
       all_goals subst ea ec
       all_goals obtain⟨ad,xk,eA,aa,ag,ae⟩:=y 0 x3 rfl
       all_goals cases eA
       all_goals try repeat' (first|refine KO ?_|refine XS1 ?_|(refine KV (b:=by first|exact U1 0|exact U4 aa) (c:=?_)))
       all_goals(apply aX ab rfl;exact(RG 1 rfl rfl rfl rfl rfl);exact rfl;exact .refl _;exact fun μ' hle af=>ae.mono hle)
      ·obtain⟨x9,xs9,ex9⟩:∃x9 xs9,ps.map (·.1)++[x3]=x9::xs9:=by cases ps<;>exact⟨_,_,rfl⟩
       rw[bE,kY,ex9]at hq;dsimp only at hq;rw[←ex9]at hq;subst hq;try repeat' (first|((with_reducible show GC _ _ (Code.seq (Code.seq (Code.region 17 _ _) _) _) _ _ _ _);(apply dE))|refine KO ?_|(refine CF 65 ?_;refine GU2 rfl (dF (by assumption) (by assumption) (hm.mono ML)) ?_;intro v9;dsimp only[ca,na])|(refine CF 46 ?_;refine GU3 rfl (mC (by assumption) (by assumption) (hm.mono ML)) ?_;intro v9;dsimp only[ca,na])|(refine CF 168 ?_;refine GP2 rfl (gZ _) ?_;dsimp only[ca,na])|(refine CF 35 ?_;refine GR3 rfl (h3 _ ML) ?_;(rintro v3 μ3 l ⟨u3,rfl,j⟩;have o_u3:=j.one;have H3:MLe μ μ3:=MLe.trans ML l;have d:=d.mono l);dsimp only[ca,na])|refine KZ ?_|(refine XAP fun v=>?_;refine bB 1 rfl ?_;rintro A2 c2 rfl u)|refine NB fun b=>?_)
       all_goals refine gB rfl ?_
       all_goals rintro μ9 o x
       all_goals have d:=d.mono o
       all_goals have j:=j.mono o
       all_goals have z:=(by have h8:=KR.bI (bD (enc:=bV) (xs:=(p::ps)++[(x3,u3)]) x (by simp) (by simp) (by rw[aD];rfl)) u.cap (Kids.app d (Kids.single j));rw[aE]at h8;exact h8)
       all_goals obtain⟨Ak,ck,ek,ah,y⟩:=z.form
       all_goals injection ek with ea en ec
       all_goals subst ea ec
       all_goals obtain⟨ad,xk,eA,aa,ag,ae⟩:=y 0 p.1 rfl
       all_goals cases eA
       all_goals try repeat' (first|refine KO ?_|(refine KV (b:=by first|exact U1 0|exact U4 aa) (c:=?_))|refine KZ ?_)
       all_goals(apply aX ab rfl;exact(RG 1 rfl rfl rfl rfl rfl);exact rfl;exact .refl _;exact fun μ' hle af=>z.mono hle)
     ·rw[if_neg h0]at hq;rcases ps with _|⟨p,ps⟩
      ·simp only[cN,jK]at hq;subst hq;try repeat' (first|refine KO ?_|(refine CF 65 ?_;refine GU2 rfl (dF (by assumption) (by assumption) (hm.mono ML)) ?_;intro v9;dsimp only[ca,na])|(refine CF 168 ?_;refine GP2 rfl (gZ _) ?_;dsimp only[ca,na])|(refine CF 35 ?_;refine GR3 rfl (h3 _ ML) ?_;(rintro v3 μ3 l ⟨u3,rfl,j⟩;have o_u3:=j.one;have H3:MLe μ μ3:=MLe.trans ML l;have d:=d.mono l);dsimp only[ca,na])|refine KZ ?_|(refine XAP fun v=>?_;refine bB 1 rfl ?_;rintro A2 c2 rfl u)|refine NB fun b=>?_)
       all_goals try(exfalso;omega)
       all_goals refine gB rfl ?_
       all_goals rintro μ9 o x
       all_goals have d:=d.mono o
       all_goals have j:=j.mono o
       all_goals have z:=(by have h8:=KR.bI (bD (enc:=bV) (xs:=[]++[(x3,u3)]) x (by simp) (by simp) (by rw[aD];rfl)) u.cap (Kids.app d (Kids.single j));rw[aE]at h8;exact h8)
       all_goals obtain⟨Ak,ck,ek,ah,y⟩:=z.form
       all_goals injection ek with ea en ec
       all_goals subst ea ec
       all_goals obtain⟨ad,xk,eA,aa,ag,ae⟩:=y 0 x3 rfl
       all_goals cases eA
       all_goals(apply aX ab rfl;(first|fail);exact rfl;(first|fail);exact fun μ' hle af=>ae.mono hle)
      ·obtain⟨x9,xs9,ex9⟩:∃x9 xs9,ps.map (·.1)++[x3]=x9::xs9:=by cases ps<;>exact⟨_,_,rfl⟩
       rw[bE,kY,ex9]at hq;dsimp only at hq;rw[←ex9]at hq;subst hq;try repeat' (first|refine KO ?_|(refine CF 65 ?_;refine GU2 rfl (dF (by assumption) (by assumption) (hm.mono ML)) ?_;intro v9;dsimp only[ca,na])|(refine CF 168 ?_;refine GP2 rfl (gZ _) ?_;dsimp only[ca,na])|(refine CF 35 ?_;refine GR3 rfl (h3 _ ML) ?_;(rintro v3 μ3 l ⟨u3,rfl,j⟩;have o_u3:=j.one;have H3:MLe μ μ3:=MLe.trans ML l;have d:=d.mono l);dsimp only[ca,na])|refine KZ ?_|(refine XAP fun v=>?_;refine bB 1 rfl ?_;rintro A2 c2 rfl u)|refine NB fun b=>?_)
       all_goals try(exfalso;omega)
       all_goals refine gB rfl ?_
       all_goals rintro μ9 o x
       all_goals have d:=d.mono o
       all_goals have j:=j.mono o
       all_goals have z:=(by have h8:=KR.bI (bD (enc:=bV) (xs:=(p::ps)++[(x3,u3)]) x (by simp) (by simp) (by rw[aD];rfl)) u.cap (Kids.app d (Kids.single j));rw[aE]at h8;exact h8)
       all_goals obtain⟨Ak,ck,ek,ah,y⟩:=z.form
       all_goals injection ek with ea en ec
       all_goals subst ea ec
       all_goals obtain⟨ad,xk,eA,aa,ag,ae⟩:=y 0 p.1 rfl
       all_goals cases eA
       all_goals(apply aX ab rfl;(first|fail);exact rfl;(first|fail);exact fun μ' hle af=>z.mono hle)
end
end Go.Proofs.YtknieidhopbngaaGreat
