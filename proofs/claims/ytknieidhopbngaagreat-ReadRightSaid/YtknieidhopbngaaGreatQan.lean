/- Package read: parameter lists, array patterns. -/
import Derived.Test.YtknieidhopbngaaGreatQam
set_option maxRecDepth 20000
set_option maxHeartbeats 2000000
namespace Go.Proofs.YtknieidhopbngaaGreat
open Go.RowKit Go.Vcg
attribute [local irreducible] jE G GC GQ GA dV Calls IntKind.wrap Int.decLt Int.decLe
section
variable{E:TkE}{src:ByteArray}{V:RPl}{xb n:Nat}{r:RdR}{s:RdS}{μ:Mem}(hE:TOk E src)(hr:nB E src n r)(hw:rO E src V xb n r)(hi:In E src s)(hm:RM E V μ)
include hE hr hw hi hm
theorem HD(hn:8*(E.ts.length-s.i)≤n+3):zCR E V xb 88 [.pointer (some ⟨xb,0,none⟩)] s (lG E r s).2 μ (fun μ' v=>TV μ' (lG E r s).1 v):=by
 intro w hμ hO;have p:=bF hO.diff;have hl:=hi.lt;have ag:=hm.few;generalize y:lG E r s=q;unfold lG bd at y;dsimp only at y;obtain⟨s1,e1,m1,l1,t1,o1⟩:=bW hE (mv0 hi) ⟨#[40]⟩;have af:=m1.inn hi;rw[e1]at y;generalize hQ:pY E r (E.ts.length+1) [] s1=Q at y;refine aC Tryz.func88 rfl Tryz.ntmps88 (by simp) hμ hO ?_;try repeat' (first|refine KO ?_|(refine CF 22 ?_;refine HP1 1 rfl (gR hi.lt (hm.mono ML)) ?_;dsimp only[ca,na])|(refine CF 65 ?_;refine HU2 2 rfl (e1▸fJ hi.lt (hm.mono ML) _) ?_;intro v9;dsimp only[ca,na])|refine KZ ?_|refine NB fun b=>?_)
 rename_i b2;refine dH (ι:=Nat×List (T×Value)×RdS×Mem×Value) (fun i=>MLe μ i.2.2.2.1∧Kids i.2.2.2.1 i.2.1∧In E src i.2.2.1∧(i.2.2.1.e=0→8*(E.ts.length-i.2.2.1.i)+5≤n)∧(i.2.2.1.e=0→E.ts.length-i.2.2.1.i<i.1)∧i.2.1.length+i.1=E.ts.length+1∧Q=pY E r i.1 (i.2.1.map (·.1)) i.2.2.1)
  (fun i=>i.1) (fun i=>i.2.2.2.1) (fun _=>[(0,.pointer (some ⟨xb,0,none⟩)),(2,.pointer (some ⟨b2,0,none⟩)),(3,.pointer (some ⟨b,0,none⟩))]) (fun i=>[.inr ⟨i.2.2.2.2,25,6,i.2.1.length,i.2.1.flatMap bV⟩,.inl ⟨b,25,6,[(0,.int .i64 5),(1,.int .i64 (aJ E s).at'),(2,.int .i64 0),(3,.int .i64 0),(4,.string ⟨#[]⟩),(5,i.2.2.2.2)]⟩,.inl ⟨b2,25,6,[]⟩,RB E V xb i.2.2.1])
  (E.ts.length+1,[],s1,μ,.slice none 0 0) ⟨MLe.refl _,Kids.nil _,af,fun e=>by have:=o1 e;dsimp only;omega,fun _=>by dsimp only;omega,by simp,hQ.symm⟩ (fun a w hs=>(hs.kU 25 6).sel PU PS) ?_
 rintro⟨f,ps,s2,μ2,v⟩ ⟨H2,d,k,z,hf,hlen,hJ⟩;dsimp only at H2 d k z hf hlen hJ⊢;have t2:=k.lt;refine iZ 0 rfl ?_;rintro A1 c1 rfl ab;by_cases hc:s2.e=0∧isR E s2 ⟨#[41]⟩=false
 ·obtain⟨f,rfl⟩:∃g,f=g+1:=⟨f-1,by have:=hf hc.1;omega⟩;have z:=z hc.1;have hf:=hf hc.1;rw[pY,if_pos hc]at hJ;by_cases x:isR E s2 ⟨#[46,46,46]⟩=true
  ·rw [if_pos x]at hJ;unfold bd at hJ;dsimp only at hJ;obtain⟨s3,e3,m3,i3,t3,o3,-⟩:=aT hE (mv0 k) (cY x);have aa:=m3.inn k;rw[e3]at hJ;have h4:=fun(μ9:Mem) (h9:MLe μ μ9)=>hw.tar s3 μ9 aa (by omega) (hm.mono h9);have m4:=(hr.tar s3 aa (by omega)).mv;generalize r.tar s3=p9 at hJ h4 m4;obtain⟨x4,s4⟩:=p9;dsimp only at hJ h4 m4;have o:=m4.inn aa;have l4:=m4.le;have t4:=m4.lt;subst hJ y;try repeat' (first|refine KO ?_|(refine CF 23 ?_;refine HP2 3 rfl (gY k.lt (hm.mono ML) _) ?_;dsimp only[ca,na])|(refine CF 42 ?_;refine HP1 3 rfl (e3▸fH k.lt (hm.mono ML)) ?_;dsimp only[ca,na])|refine KZ ?_|(refine KB ?_ ?_<;>intro hp))
   all_goals try(exfalso;simp_all;done)
   refine aW 11 _ (by kernel_rfl) rfl (aG (aG (aG (aG aU)))) ?_;all_goals(refine DD 0 ?_;refine DD 2 ?_;refine DD 3 ?_)
   refine dS 1 4 (by kernel_rfl) ?dr6_1 ?dr6_4
   case' dr6_1=>
    (((with_reducible apply bS);(iterate 4 exact rfl);(((with_reducible apply gT);exact rfl;(repeat first|with_reducible exact bT|with_reducible apply cG);exact rfl))))
    all_goals(refine D3 4 ?_;refine D5 ?_;refine CF 111 ?_;refine HR1 3 rfl (h4 _ ML) ?_;(rintro v4 μ4 c ⟨u4,rfl,j⟩;have o_u4:=j.one;have H4:MLe μ μ4:=MLe.trans ML c;have d:=d.mono c);dsimp only[ca,na];refine D9 ?_)
    all_goals(refine D3 5 ?_;refine D5 ?_;refine NB fun b=>?_;refine D9 ?_;refine DD 6 ?_;refine D3 7 ?_;refine D5 ?_;refine NB fun b=>?_;refine D9 ?_)
    all_goals(refine D3 8 ?_;refine D5 ?_;(refine XAP fun v=>?_;refine bB 2 rfl ?_;rintro A2 c2 rfl h);refine D9 ?_)
    all_goals(refine DD 9 ?_;refine D3 10 ?_;refine D5 ?_;refine Y0 ?_;refine D9 ?_;refine D8 ?_)
   case' dr6_4=>
    (refine D5 ?_;refine CF 111 ?_;refine HR1 3 rfl (h4 _ ML) ?_;(rintro v4 μ4 c ⟨u4,rfl,j⟩;have o_u4:=j.one;have H4:MLe μ μ4:=MLe.trans ML c;have d:=d.mono c);dsimp only[ca,na];refine D9 ?_)
    refine dS 1 5 (by kernel_rfl) ?dr7_1 ?dr7_5
    case' dr7_1=>
     (((with_reducible apply bS);(iterate 4 exact rfl);(((with_reducible apply gT);exact rfl;(repeat first|with_reducible exact bT|with_reducible apply cG);exact rfl))))
     all_goals(refine D3 5 ?_;refine D5 ?_;refine NB fun b=>?_;refine D9 ?_;refine DD 6 ?_;refine D3 7 ?_;refine D5 ?_;refine NB fun b=>?_;refine D9 ?_)
     all_goals(refine D3 8 ?_;refine D5 ?_;(refine XAP fun v=>?_;refine bB 2 rfl ?_;rintro A2 c2 rfl h);refine D9 ?_)
     all_goals(refine DD 9 ?_;refine D3 10 ?_;refine D5 ?_;refine Y0 ?_;refine D9 ?_;refine D8 ?_)
    case' dr7_5=>
     (refine D5 ?_;refine NB fun b=>?_;refine D9 ?_)
     all_goals refine DD 6 ?_
     refine dS 1 7 (by kernel_rfl) ?dr8_1 ?dr8_7
     case' dr8_1=>
      (((with_reducible apply bS);(iterate 4 exact rfl);(((with_reducible apply gT);exact rfl;(repeat first|with_reducible exact bT|with_reducible apply cG);exact rfl))))
      all_goals(refine D3 7 ?_;refine D5 ?_;refine NB fun b=>?_;refine D9 ?_)
      all_goals(refine D3 8 ?_;refine D5 ?_;(refine XAP fun v=>?_;refine bB 2 rfl ?_;rintro A2 c2 rfl h);refine D9 ?_)
      all_goals(refine DD 9 ?_;refine D3 10 ?_;refine D5 ?_;refine Y0 ?_;refine D9 ?_;refine D8 ?_)
     case' dr8_7=>
      (refine D5 ?_;refine NB fun b=>?_;refine D9 ?_)
      all_goals(refine D3 1 ?_;(with_reducible apply bS);(iterate 4 exact rfl);(((with_reducible apply gT);exact rfl;(repeat first|with_reducible exact bT|with_reducible apply cG);exact rfl)))
      all_goals(refine D3 8 ?_;refine D5 ?_;(refine XAP fun v=>?_;refine bB 2 rfl ?_;rintro A2 c2 rfl h);refine D9 ?_)
      all_goals(refine DD 9 ?_;refine D3 10 ?_;refine D5 ?_;refine Y0 ?_;refine D9 ?_;refine D8 ?_)
   all_goals rename_i b1
   all_goals try repeat' (first|refine KO ?_|(refine CF 65 ?_;refine HU2 5 rfl (fJ o.lt (hm.mono ML) _) ?_;intro v9;dsimp only[ca,na])|refine KZ ?_)
   all_goals exact eS 5 p rfl (RG 4 rfl rfl rfl rfl rfl) rfl (.refl _) fun μ' hle l=>⟨_,rfl,(by have h8:=KR.bI (bD (enc:=bV) (xs:=ps++[(nd 64 (aJ E s2).at' [x4],Value.slice (some ⟨b1,0,none⟩) 1 1)]) (l _ (aS (aS (aA)))) (by simp) (by simp) (by rw[aD];rfl)) h.cap (Kids.app (d.mono hle) (Kids.single (KR.lit [(x4,u4)] (l _ (aS (aA))) rfl (by repeat first|exact bH|refine bA rfl ?_) (Kids.single (j.mono hle)))));rw[aE]at h8;exact h8)⟩
  ·rw [if_neg x]at hJ;unfold bd at hJ;dsimp only at hJ;have h4:=fun(μ9:Mem) (h9:MLe μ μ9)=>qW hE hr hw k (hm.mono h9) (by omega);have m4:=(mP hE hr k (by omega)).mv;generalize jJ E r s2=p9 at hJ h4 m4;obtain⟨x4,s4⟩:=p9;dsimp only at hJ h4 m4;have o:=m4.inn k;have l4:=m4.le;have t4:=m4.lt;by_cases u:isR E s4 ⟨#[44]⟩=true
   ·rw[if_pos u]at hJ;have ee:cH E ⟨#[44]⟩ s4=bJ E s4:=by unfold cH;rw[if_pos u]
    obtain⟨s5,e5,m5,i5,t5,o5,-⟩:=aT hE (mv0 o) (cY u);have ae:=m5.inn o;rw[e5]at hJ ee;try repeat' (first|refine KO ?_|(refine CF 23 ?_;refine HP2 3 rfl (gY k.lt (hm.mono ML) _) ?_;dsimp only[ca,na])|refine KZ ?_|(refine KB ?_ ?_<;>intro hp))
    all_goals try(exfalso;simp_all;done)
    refine aW 8 _ (by kernel_rfl) rfl (aG (aG (aG (aG aU)))) ?_;all_goals(refine DD 0 ?_;refine DD 2 ?_)
    refine dS 1 3 (by kernel_rfl) ?dr9_1 ?dr9_3
    case' dr9_1=>
     (((with_reducible apply bS);(iterate 4 exact rfl);(((with_reducible apply gT);exact rfl;(repeat first|with_reducible exact bT|with_reducible apply cG);exact rfl))))
     all_goals(refine D3 3 ?_;refine D5 ?_;refine CF 114 ?_;refine HR1 3 rfl (h4 _ ML) ?_;(rintro v4 μ4 c ⟨u4,rfl,j⟩;have o_u4:=j.one;have H4:MLe μ μ4:=MLe.trans ML c;have d:=d.mono c);dsimp only[ca,na];refine D9 ?_)
     all_goals(refine D3 4 ?_;refine D5 ?_;refine NB fun b=>?_;refine D9 ?_)
     all_goals(refine D3 5 ?_;refine D5 ?_;(refine XAP fun v=>?_;refine bB 1 rfl ?_;rintro A2 c2 rfl h);refine D9 ?_)
     all_goals(refine DD 6 ?_;refine D3 7 ?_;refine D5 ?_;refine Y0 ?_;refine D9 ?_;refine D8 ?_)
    case' dr9_3=>
     (refine D5 ?_;refine CF 114 ?_;refine HR1 3 rfl (h4 _ ML) ?_;(rintro v4 μ4 c ⟨u4,rfl,j⟩;have o_u4:=j.one;have H4:MLe μ μ4:=MLe.trans ML c;have d:=d.mono c);dsimp only[ca,na];refine D9 ?_)
     refine dS 1 4 (by kernel_rfl) ?dr10_1 ?dr10_4
     case' dr10_1=>
      (((with_reducible apply bS);(iterate 4 exact rfl);(((with_reducible apply gT);exact rfl;(repeat first|with_reducible exact bT|with_reducible apply cG);exact rfl))))
      all_goals(refine D3 4 ?_;refine D5 ?_;refine NB fun b=>?_;refine D9 ?_)
      all_goals(refine D3 5 ?_;refine D5 ?_;(refine XAP fun v=>?_;refine bB 1 rfl ?_;rintro A2 c2 rfl h);refine D9 ?_)
      all_goals(refine DD 6 ?_;refine D3 7 ?_;refine D5 ?_;refine Y0 ?_;refine D9 ?_;refine D8 ?_)
     case' dr10_4=>
      (refine D5 ?_;refine NB fun b=>?_;refine D9 ?_)
      all_goals(refine D3 1 ?_;(with_reducible apply bS);(iterate 4 exact rfl);(((with_reducible apply gT);exact rfl;(repeat first|with_reducible exact bT|with_reducible apply cG);exact rfl)))
      all_goals(refine D3 5 ?_;refine D5 ?_;(refine XAP fun v=>?_;refine bB 1 rfl ?_;rintro A2 c2 rfl h);refine D9 ?_)
      all_goals(refine DD 6 ?_;refine D3 7 ?_;refine D5 ?_;refine Y0 ?_;refine D9 ?_;refine D8 ?_)
    all_goals try repeat' (first|refine KO ?_|(refine CF 53 ?_;refine HP2 4 rfl (ee▸lF o.lt (hm.mono ML) _) ?_;dsimp only[ca,na])|refine KZ ?_|(refine KB ?_ ?_<;>intro hp))
    all_goals try(exfalso;simp_all;done)
    all_goals refine dZ (f,ps++[(x4,u4)],s5,μ4,.slice A2 (ps.length+1) c2) ⟨H4,Kids.app d (Kids.single j),ae,fun e=>by dsimp only at e⊢;omega,fun e=>by dsimp only at e⊢;omega,by simp only[aB,aF,aL];omega,by dsimp only;rw[aE];exact hJ⟩ (by dsimp only;omega) rfl PU (by dsimp only;rw[aB,aD];exact PS)
   ·rw[if_neg u]at hJ;have ee:cH E ⟨#[44]⟩ s4=s4:=by unfold cH;rw[if_neg u]
    subst hJ y;try repeat' (first|refine KO ?_|(refine CF 23 ?_;refine HP2 3 rfl (gY k.lt (hm.mono ML) _) ?_;dsimp only[ca,na])|refine KZ ?_|(refine KB ?_ ?_<;>intro hp))
    all_goals try(exfalso;simp_all;done)
    refine aW 8 _ (by kernel_rfl) rfl (aG (aG (aG (aG aU)))) ?_;all_goals(refine DD 0 ?_;refine DD 2 ?_)
    refine dS 1 3 (by kernel_rfl) ?dr11_1 ?dr11_3
    case' dr11_1=>
     (((with_reducible apply bS);(iterate 4 exact rfl);(((with_reducible apply gT);exact rfl;(repeat first|with_reducible exact bT|with_reducible apply cG);exact rfl))))
     all_goals(refine D3 3 ?_;refine D5 ?_;refine CF 114 ?_;refine HR1 3 rfl (h4 _ ML) ?_;(rintro v4 μ4 c ⟨u4,rfl,j⟩;have o_u4:=j.one;have H4:MLe μ μ4:=MLe.trans ML c;have d:=d.mono c);dsimp only[ca,na];refine D9 ?_)
     all_goals(refine D3 4 ?_;refine D5 ?_;refine NB fun b=>?_;refine D9 ?_)
     all_goals(refine D3 5 ?_;refine D5 ?_;(refine XAP fun v=>?_;refine bB 1 rfl ?_;rintro A2 c2 rfl h);refine D9 ?_)
     all_goals(refine DD 6 ?_;refine D3 7 ?_;refine D5 ?_;refine Y0 ?_;refine D9 ?_;refine D8 ?_)
    case' dr11_3=>
     (refine D5 ?_;refine CF 114 ?_;refine HR1 3 rfl (h4 _ ML) ?_;(rintro v4 μ4 c ⟨u4,rfl,j⟩;have o_u4:=j.one;have H4:MLe μ μ4:=MLe.trans ML c;have d:=d.mono c);dsimp only[ca,na];refine D9 ?_)
     refine dS 1 4 (by kernel_rfl) ?dr12_1 ?dr12_4
     case' dr12_1=>
      (((with_reducible apply bS);(iterate 4 exact rfl);(((with_reducible apply gT);exact rfl;(repeat first|with_reducible exact bT|with_reducible apply cG);exact rfl))))
      all_goals(refine D3 4 ?_;refine D5 ?_;refine NB fun b=>?_;refine D9 ?_)
      all_goals(refine D3 5 ?_;refine D5 ?_;(refine XAP fun v=>?_;refine bB 1 rfl ?_;rintro A2 c2 rfl h);refine D9 ?_)
      all_goals(refine DD 6 ?_;refine D3 7 ?_;refine D5 ?_;refine Y0 ?_;refine D9 ?_;refine D8 ?_)
     case' dr12_4=>
      (refine D5 ?_;refine NB fun b=>?_;refine D9 ?_)
      all_goals(refine D3 1 ?_;(with_reducible apply bS);(iterate 4 exact rfl);(((with_reducible apply gT);exact rfl;(repeat first|with_reducible exact bT|with_reducible apply cG);exact rfl)))
      all_goals(refine D3 5 ?_;refine D5 ?_;(refine XAP fun v=>?_;refine bB 1 rfl ?_;rintro A2 c2 rfl h);refine D9 ?_)
      all_goals(refine DD 6 ?_;refine D3 7 ?_;refine D5 ?_;refine Y0 ?_;refine D9 ?_;refine D8 ?_)
    all_goals try repeat' (first|refine KO ?_|(refine CF 53 ?_;refine HP2 4 rfl (ee▸lF o.lt (hm.mono ML) _) ?_;dsimp only[ca,na])|(refine CF 65 ?_;refine HU2 4 rfl (fJ o.lt (hm.mono ML) _) ?_;intro v9;dsimp only[ca,na])|refine KZ ?_|(refine KB ?_ ?_<;>intro hp))
    all_goals try(exfalso;simp_all;done)
    all_goals exact eS 4 p rfl (by exact(RG 3 rfl rfl rfl rfl rfl)) rfl (.refl _) fun μ' hle l=>⟨_,rfl,(by have h8:=KR.bI (bD (enc:=bV) (xs:=ps++[(x4,u4)]) (l _ (aS (aA))) (by simp) (by simp) (by rw[aD];rfl)) h.cap (Kids.app (d.mono hle) (Kids.single (j.mono hle)));rw[aE]at h8;exact h8)⟩
 ·have ad:pY E r f (ps.map (·.1)) s2=(ps.map (·.1),s2):=by
   cases f with
   |zero=>rfl
   |succ f=>rw[pY,if_neg hc]
  rw[ad]at hJ;subst hJ y;by_cases he:s2.e=0
  ·have h9:isR E s2 ⟨#[41]⟩=true:=by simpa[he]using hc
   try repeat' (first|refine KO ?_|(refine CF 23 ?_;refine HP2 3 rfl (gY k.lt (hm.mono ML) _) ?_;dsimp only[ca,na])|(refine CF 65 ?_;refine HU2 3 rfl (fJ k.lt (hm.mono ML) _) ?_;intro v9;dsimp only[ca,na])|refine KZ ?_|(refine KB ?_ ?_<;>intro hp))
   all_goals try(exfalso;simp_all;done)
   exact eS 3 p rfl (by exact(RG 2 rfl rfl rfl rfl rfl)) rfl (.refl _) fun μ' hle l=>⟨_,rfl,KR.bI (bD (enc:=bV) (xs:=ps) (l _ (aA)) rfl (by simp) rfl) ab.cap (d.mono hle)⟩
  ·try repeat' (first|refine KO ?_|(refine CF 65 ?_;refine HU2 3 rfl (fJ k.lt (hm.mono ML) _) ?_;intro v9;dsimp only[ca,na])|refine KZ ?_)
   all_goals try(exfalso;simp_all;done)
   exact eS 3 p rfl (by exact(RG 2 rfl rfl rfl rfl rfl)) rfl (.refl _) fun μ' hle l=>⟨_,rfl,KR.bI (bD (enc:=bV) (xs:=ps) (l _ (aA)) rfl (by simp) rfl) ab.cap (d.mono hle)⟩
theorem aEv(af:(aJ E s).k≠0)(hn:8*(E.ts.length-s.i)≤n+3):zCR E V xb 125 [.pointer (some ⟨xb,0,none⟩)] s (OL E r s).2 μ (fun μ' v=>TV μ' (OL E r s).1 v):=by
 intro w hμ hO;have u:=bF hO.diff;have hl:=hi.lt;have ai:=hm.few;generalize hq:OL E r s=q;unfold OL bd at hq;dsimp only at hq;obtain⟨s1,e1,m1,i1,t1,o1,-⟩:=aT hE (mv0 hi) af;have ah:=m1.inn hi;rw[e1]at hq;generalize hQ:FY E r (E.ts.length+1) [] s1=Q at hq;refine aC Tryz.func125 rfl Tryz.ntmps125 (by simp) hμ hO ?_;try repeat' (first|refine KO ?_|(refine CF 42 ?_;refine HP1 1 rfl (e1▸fH hi.lt (hm.mono ML)) ?_;dsimp only[ca,na])|refine KZ ?_|refine NB fun b=>?_)
 rename_i b2;refine dH (ι:=Nat×List (T×Value)×RdS×Mem×Value) (fun i=>MLe μ i.2.2.2.1∧Kids i.2.2.2.1 i.2.1∧In E src i.2.2.1∧(i.2.2.1.e=0→8*(E.ts.length-i.2.2.1.i)+5≤n)∧(i.2.2.1.e=0→E.ts.length-i.2.2.1.i<i.1)∧i.2.1.length+i.1=E.ts.length+1∧Q=FY E r i.1 (i.2.1.map (·.1)) i.2.2.1)
  (fun i=>i.1) (fun i=>i.2.2.2.1) (fun _=>[(0,.pointer (some ⟨xb,0,none⟩)),(2,.pointer (some ⟨b2,0,none⟩)),(3,.pointer (some ⟨b,0,none⟩))]) (fun i=>[.inr ⟨i.2.2.2.2,25,6,i.2.1.length,i.2.1.flatMap bV⟩,.inl ⟨b,25,6,[(0,.int .i64 60),(1,.int .i64 (aJ E s).at'),(2,.int .i64 0),(3,.int .i64 0),(4,.string ⟨#[]⟩),(5,i.2.2.2.2)]⟩,.inl ⟨b2,25,6,[]⟩,RB E V xb i.2.2.1])
  (E.ts.length+1,[],s1,μ,.slice none 0 0) ⟨MLe.refl _,Kids.nil _,ah,fun e=>by dsimp only;omega,fun _=>by dsimp only;omega,by simp,hQ.symm⟩ (fun a w hs=>(hs.kU 25 6).sel PU PS) ?_
 rintro⟨f,ps,s2,μ2,v⟩ ⟨H2,h,j,aa,hf,hlen,hJ⟩;dsimp only at H2 h j aa hf hlen hJ⊢;have t2:=j.lt;refine iZ 0 rfl ?_;rintro A1 c1 rfl ad;by_cases hc:s2.e=0∧isR E s2 ⟨#[93]⟩=false
 ·obtain⟨f,rfl⟩:∃g,f=g+1:=⟨f-1,by have:=hf hc.1;omega⟩;have aa:=aa hc.1;have hf:=hf hc.1;rw[FY,if_pos hc]at hJ;by_cases ab:isR E s2 ⟨#[44]⟩=true
  ·rw[if_pos ab]at hJ;obtain⟨s3,e3,m3,i3,t3,o3,-⟩:=aT hE (mv0 j) (cY ab);have x:=m3.inn j;rw[e3]at hJ;try repeat' (first|refine KO ?_|(refine CF 23 ?_;refine HP2 3 rfl (gY j.lt (hm.mono ML) _) ?_;dsimp only[ca,na])|refine KZ ?_|(refine KB ?_ ?_<;>intro hp))
   all_goals try(exfalso;simp_all;done)
   refine aW 10 _ (by kernel_rfl) rfl (aG (aG (aG (aG aU)))) ?_;all_goals(refine DD 0 ?_;refine DD 2 ?_)
   refine dS 1 3 (by kernel_rfl) ?dr13_1 ?dr13_3
   case' dr13_1=>
    (((with_reducible apply bS);(iterate 4 exact rfl);(((with_reducible apply gT);exact rfl;(repeat first|with_reducible exact bT|with_reducible apply cG);exact rfl))))
    all_goals(refine D3 3 ?_;refine D5 ?_;refine CF 42 ?_;refine HP1 3 rfl (e3▸fH j.lt (hm.mono ML)) ?_;dsimp only[ca,na];refine D9 ?_)
    all_goals(refine DD 4 ?_;refine DD 5 ?_;refine D3 6 ?_;refine D5 ?_;refine NB fun b=>?_;refine D9 ?_)
    all_goals(refine D3 7 ?_;refine D5 ?_;(refine XAP fun v=>?_;refine bB 1 rfl ?_;rintro A2 c2 rfl d);refine D9 ?_)
    all_goals(refine DD 8 ?_;refine D3 9 ?_;refine D5 ?_;refine Y0 ?_;refine D9 ?_;refine D8 ?_)
   case' dr13_3=>
    (refine D5 ?_;refine CF 42 ?_;refine HP1 3 rfl (e3▸fH j.lt (hm.mono ML)) ?_;dsimp only[ca,na];refine D9 ?_)
    all_goals(refine DD 4 ?_;refine DD 5 ?_)
    refine dS 1 6 (by kernel_rfl) ?dr14_1 ?dr14_6
    case' dr14_1=>
     (((with_reducible apply bS);(iterate 4 exact rfl);(((with_reducible apply gT);exact rfl;(repeat first|with_reducible exact bT|with_reducible apply cG);exact rfl))))
     all_goals(refine D3 6 ?_;refine D5 ?_;refine NB fun b=>?_;refine D9 ?_)
     all_goals(refine D3 7 ?_;refine D5 ?_;(refine XAP fun v=>?_;refine bB 1 rfl ?_;rintro A2 c2 rfl d);refine D9 ?_)
     all_goals(refine DD 8 ?_;refine D3 9 ?_;refine D5 ?_;refine Y0 ?_;refine D9 ?_;refine D8 ?_)
    case' dr14_6=>
     (refine D5 ?_;refine NB fun b=>?_;refine D9 ?_)
     all_goals(refine D3 1 ?_;(with_reducible apply bS);(iterate 4 exact rfl);(((with_reducible apply gT);exact rfl;(repeat first|with_reducible exact bT|with_reducible apply cG);exact rfl)))
     all_goals(refine D3 7 ?_;refine D5 ?_;(refine XAP fun v=>?_;refine bB 1 rfl ?_;rintro A2 c2 rfl d);refine D9 ?_)
     all_goals(refine DD 8 ?_;refine D3 9 ?_;refine D5 ?_;refine Y0 ?_;refine D9 ?_;refine D8 ?_)
   all_goals try repeat' (refine KZ ?_)
   all_goals refine dZ (f,ps++[(nd 40 (aJ E s2).at' [],Value.slice none 0 0)],s3,μ2,.slice A2 (ps.length+1) c2) ⟨H2,Kids.app h (Kids.single (KR.nil _ _ _)),x,fun e=>by dsimp only at e⊢;omega,fun e=>by dsimp only at e⊢;omega,by simp only[aB,aF,aL];omega,by dsimp only;rw[aE];exact hJ⟩ (by dsimp only;omega) rfl PU (by dsimp only;rw[aB,aD];exact PS)
  ·rw [if_neg ab]at hJ;by_cases z:isR E s2 ⟨#[46,46,46]⟩=true
   ·rw [if_pos z]at hJ;unfold bd at hJ;dsimp only at hJ;obtain⟨s3,e3,m3,i3,t3,o3,-⟩:=aT hE (mv0 j) (cY z);have x:=m3.inn j;rw[e3]at hJ;have h4:=fun(μ9:Mem) (h9:MLe μ μ9)=>hw.tar s3 μ9 x (by omega) (hm.mono h9);have m4:=(hr.tar s3 x (by omega)).mv;generalize r.tar s3=p9 at hJ h4 m4;obtain⟨x4,s4⟩:=p9;dsimp only at hJ h4 m4;have p:=m4.inn x;have l4:=m4.le;have t4:=m4.lt;subst hJ hq;try repeat' (first|refine KO ?_|(refine CF 23 ?_;refine HP2 3 rfl (gY j.lt (hm.mono ML) _) ?_;dsimp only[ca,na])|(refine CF 42 ?_;refine HP1 3 rfl (e3▸fH j.lt (hm.mono ML)) ?_;dsimp only[ca,na])|refine KZ ?_|(refine KB ?_ ?_<;>intro hp))
    all_goals try(exfalso;simp_all;done)
    refine aW 11 _ (by kernel_rfl) rfl (aG (aG (aG (aG aU)))) ?_;all_goals(refine DD 0 ?_;refine DD 2 ?_;refine DD 3 ?_)
    refine dS 1 4 (by kernel_rfl) ?dr15_1 ?dr15_4
    case' dr15_1=>
     (((with_reducible apply bS);(iterate 4 exact rfl);(((with_reducible apply gT);exact rfl;(repeat first|with_reducible exact bT|with_reducible apply cG);exact rfl))))
     all_goals(refine D3 4 ?_;refine D5 ?_;refine CF 111 ?_;refine HR1 3 rfl (h4 _ ML) ?_;(rintro v4 μ4 c ⟨u4,rfl,l⟩;have o_u4:=l.one;have H4:MLe μ μ4:=MLe.trans ML c;have h:=h.mono c);dsimp only[ca,na];refine D9 ?_)
     all_goals(refine D3 5 ?_;refine D5 ?_;refine NB fun b=>?_;refine D9 ?_;refine DD 6 ?_;refine D3 7 ?_;refine D5 ?_;refine NB fun b=>?_;refine D9 ?_)
     all_goals(refine D3 8 ?_;refine D5 ?_;(refine XAP fun v=>?_;refine bB 2 rfl ?_;rintro A2 c2 rfl d);refine D9 ?_)
     all_goals(refine DD 9 ?_;refine D3 10 ?_;refine D5 ?_;refine Y0 ?_;refine D9 ?_;refine D8 ?_)
    case' dr15_4=>
     (refine D5 ?_;refine CF 111 ?_;refine HR1 3 rfl (h4 _ ML) ?_;(rintro v4 μ4 c ⟨u4,rfl,l⟩;have o_u4:=l.one;have H4:MLe μ μ4:=MLe.trans ML c;have h:=h.mono c);dsimp only[ca,na];refine D9 ?_)
     refine dS 1 5 (by kernel_rfl) ?dr16_1 ?dr16_5
     case' dr16_1=>
      (((with_reducible apply bS);(iterate 4 exact rfl);(((with_reducible apply gT);exact rfl;(repeat first|with_reducible exact bT|with_reducible apply cG);exact rfl))))
      all_goals(refine D3 5 ?_;refine D5 ?_;refine NB fun b=>?_;refine D9 ?_;refine DD 6 ?_;refine D3 7 ?_;refine D5 ?_;refine NB fun b=>?_;refine D9 ?_)
      all_goals(refine D3 8 ?_;refine D5 ?_;(refine XAP fun v=>?_;refine bB 2 rfl ?_;rintro A2 c2 rfl d);refine D9 ?_)
      all_goals(refine DD 9 ?_;refine D3 10 ?_;refine D5 ?_;refine Y0 ?_;refine D9 ?_;refine D8 ?_)
     case' dr16_5=>
      (refine D5 ?_;refine NB fun b=>?_;refine D9 ?_)
      all_goals refine DD 6 ?_
      refine dS 1 7 (by kernel_rfl) ?dr17_1 ?dr17_7
      case' dr17_1=>
       (((with_reducible apply bS);(iterate 4 exact rfl);(((with_reducible apply gT);exact rfl;(repeat first|with_reducible exact bT|with_reducible apply cG);exact rfl))))
       all_goals(refine D3 7 ?_;refine D5 ?_;refine NB fun b=>?_;refine D9 ?_)
       all_goals(refine D3 8 ?_;refine D5 ?_;(refine XAP fun v=>?_;refine bB 2 rfl ?_;rintro A2 c2 rfl d);refine D9 ?_)
       all_goals(refine DD 9 ?_;refine D3 10 ?_;refine D5 ?_;refine Y0 ?_;refine D9 ?_;refine D8 ?_)
      case' dr17_7=>
       (refine D5 ?_;refine NB fun b=>?_;refine D9 ?_)
       all_goals(refine D3 1 ?_;(with_reducible apply bS);(iterate 4 exact rfl);(((with_reducible apply gT);exact rfl;(repeat first|with_reducible exact bT|with_reducible apply cG);exact rfl)))
       all_goals(refine D3 8 ?_;refine D5 ?_;(refine XAP fun v=>?_;refine bB 2 rfl ?_;rintro A2 c2 rfl d);refine D9 ?_)
       all_goals(refine DD 9 ?_;refine D3 10 ?_;refine D5 ?_;refine Y0 ?_;refine D9 ?_;refine D8 ?_)
    all_goals rename_i b1
    all_goals try repeat' (first|refine KO ?_|(refine CF 65 ?_;refine HU2 5 rfl (fJ p.lt (hm.mono ML) _) ?_;intro v9;dsimp only[ca,na])|refine KZ ?_)
    all_goals exact eS 5 u rfl (RG 4 rfl rfl rfl rfl rfl) rfl (.refl _) fun μ' hle o=>⟨_,rfl,(by have h8:=KR.bI (bD (enc:=bV) (xs:=ps++[(nd 64 (aJ E s2).at' [x4],Value.slice (some ⟨b1,0,none⟩) 1 1)]) (o _ (aS (aS (aA)))) (by simp) (by simp) (by rw[aD];rfl)) d.cap (Kids.app (h.mono hle) (Kids.single (KR.lit [(x4,u4)] (o _ (aS (aA))) rfl (by repeat first|exact bH|refine bA rfl ?_) (Kids.single (l.mono hle)))));rw[aE]at h8;exact h8)⟩
   ·rw [if_neg z]at hJ;unfold bd at hJ;dsimp only at hJ;have h4:=fun(μ9:Mem) (h9:MLe μ μ9)=>qW hE hr hw j (hm.mono h9) (by omega);have m4:=(mP hE hr j (by omega)).mv;generalize jJ E r s2=p9 at hJ h4 m4;obtain⟨x4,s4⟩:=p9;dsimp only at hJ h4 m4;have p:=m4.inn j;have l4:=m4.le;have t4:=m4.lt;by_cases y:isR E s4 ⟨#[44]⟩=true
    ·rw[if_pos y]at hJ;have ee:cH E ⟨#[44]⟩ s4=bJ E s4:=by unfold cH;rw[if_pos y]
     obtain⟨s5,e5,m5,i5,t5,o5,-⟩:=aT hE (mv0 p) (cY y);have ag:=m5.inn p;rw[e5]at hJ ee;try repeat' (first|refine KO ?_|(refine CF 23 ?_;refine HP2 3 rfl (gY j.lt (hm.mono ML) _) ?_;dsimp only[ca,na])|refine KZ ?_|(refine KB ?_ ?_<;>intro hp))
     all_goals try(exfalso;simp_all;done)
     refine aW 8 _ (by kernel_rfl) rfl (aG (aG (aG (aG aU)))) ?_;all_goals(refine DD 0 ?_;refine DD 2 ?_)
     refine dS 1 3 (by kernel_rfl) ?dr18_1 ?dr18_3
     case' dr18_1=>
      (((with_reducible apply bS);(iterate 4 exact rfl);(((with_reducible apply gT);exact rfl;(repeat first|with_reducible exact bT|with_reducible apply cG);exact rfl))))
      all_goals(refine D3 3 ?_;refine D5 ?_;refine CF 114 ?_;refine HR1 3 rfl (h4 _ ML) ?_;(rintro v4 μ4 c ⟨u4,rfl,l⟩;have o_u4:=l.one;have H4:MLe μ μ4:=MLe.trans ML c;have h:=h.mono c);dsimp only[ca,na];refine D9 ?_)
      all_goals(refine D3 4 ?_;refine D5 ?_;refine NB fun b=>?_;refine D9 ?_)
      all_goals(refine D3 5 ?_;refine D5 ?_;(refine XAP fun v=>?_;refine bB 1 rfl ?_;rintro A2 c2 rfl d);refine D9 ?_)
      all_goals(refine DD 6 ?_;refine D3 7 ?_;refine D5 ?_;refine Y0 ?_;refine D9 ?_;refine D8 ?_)
     case' dr18_3=>
      (refine D5 ?_;refine CF 114 ?_;refine HR1 3 rfl (h4 _ ML) ?_;(rintro v4 μ4 c ⟨u4,rfl,l⟩;have o_u4:=l.one;have H4:MLe μ μ4:=MLe.trans ML c;have h:=h.mono c);dsimp only[ca,na];refine D9 ?_)
      refine dS 1 4 (by kernel_rfl) ?dr19_1 ?dr19_4
      case' dr19_1=>
       (((with_reducible apply bS);(iterate 4 exact rfl);(((with_reducible apply gT);exact rfl;(repeat first|with_reducible exact bT|with_reducible apply cG);exact rfl))))
       all_goals(refine D3 4 ?_;refine D5 ?_;refine NB fun b=>?_;refine D9 ?_)
       all_goals(refine D3 5 ?_;refine D5 ?_;(refine XAP fun v=>?_;refine bB 1 rfl ?_;rintro A2 c2 rfl d);refine D9 ?_)
       all_goals(refine DD 6 ?_;refine D3 7 ?_;refine D5 ?_;refine Y0 ?_;refine D9 ?_;refine D8 ?_)
      case' dr19_4=>
       (refine D5 ?_;refine NB fun b=>?_;refine D9 ?_)
       all_goals(refine D3 1 ?_;(with_reducible apply bS);(iterate 4 exact rfl);(((with_reducible apply gT);exact rfl;(repeat first|with_reducible exact bT|with_reducible apply cG);exact rfl)))
       all_goals(refine D3 5 ?_;refine D5 ?_;(refine XAP fun v=>?_;refine bB 1 rfl ?_;rintro A2 c2 rfl d);refine D9 ?_)
       all_goals(refine DD 6 ?_;refine D3 7 ?_;refine D5 ?_;refine Y0 ?_;refine D9 ?_;refine D8 ?_)
     all_goals try repeat' (first|refine KO ?_|(refine CF 53 ?_;refine HP2 4 rfl (ee▸lF p.lt (hm.mono ML) _) ?_;dsimp only[ca,na])|refine KZ ?_|(refine KB ?_ ?_<;>intro hp))
     all_goals try(exfalso;simp_all;done)
     all_goals refine dZ (f,ps++[(x4,u4)],s5,μ4,.slice A2 (ps.length+1) c2) ⟨H4,Kids.app h (Kids.single l),ag,fun e=>by dsimp only at e⊢;omega,fun e=>by dsimp only at e⊢;omega,by simp only[aB,aF,aL];omega,by dsimp only;rw[aE];exact hJ⟩ (by dsimp only;omega) rfl PU (by dsimp only;rw[aB,aD];exact PS)
    ·rw[if_neg y]at hJ;have ee:cH E ⟨#[44]⟩ s4=s4:=by unfold cH;rw[if_neg y]
     subst hJ hq;try repeat' (first|refine KO ?_|(refine CF 23 ?_;refine HP2 3 rfl (gY j.lt (hm.mono ML) _) ?_;dsimp only[ca,na])|refine KZ ?_|(refine KB ?_ ?_<;>intro hp))
     all_goals try(exfalso;simp_all;done)
     refine aW 8 _ (by kernel_rfl) rfl (aG (aG (aG (aG aU)))) ?_;all_goals(refine DD 0 ?_;refine DD 2 ?_)
     refine dS 1 3 (by kernel_rfl) ?dr20_1 ?dr20_3
     case' dr20_1=>
      (((with_reducible apply bS);(iterate 4 exact rfl);(((with_reducible apply gT);exact rfl;(repeat first|with_reducible exact bT|with_reducible apply cG);exact rfl))))
      all_goals(refine D3 3 ?_;refine D5 ?_;refine CF 114 ?_;refine HR1 3 rfl (h4 _ ML) ?_;(rintro v4 μ4 c ⟨u4,rfl,l⟩;have o_u4:=l.one;have H4:MLe μ μ4:=MLe.trans ML c;have h:=h.mono c);dsimp only[ca,na];refine D9 ?_)
      all_goals(refine D3 4 ?_;refine D5 ?_;refine NB fun b=>?_;refine D9 ?_)
      all_goals(refine D3 5 ?_;refine D5 ?_;(refine XAP fun v=>?_;refine bB 1 rfl ?_;rintro A2 c2 rfl d);refine D9 ?_)
      all_goals(refine DD 6 ?_;refine D3 7 ?_;refine D5 ?_;refine Y0 ?_;refine D9 ?_;refine D8 ?_)
     case' dr20_3=>
      (refine D5 ?_;refine CF 114 ?_;refine HR1 3 rfl (h4 _ ML) ?_;(rintro v4 μ4 c ⟨u4,rfl,l⟩;have o_u4:=l.one;have H4:MLe μ μ4:=MLe.trans ML c;have h:=h.mono c);dsimp only[ca,na];refine D9 ?_)
      refine dS 1 4 (by kernel_rfl) ?dr21_1 ?dr21_4
      case' dr21_1=>
       (((with_reducible apply bS);(iterate 4 exact rfl);(((with_reducible apply gT);exact rfl;(repeat first|with_reducible exact bT|with_reducible apply cG);exact rfl))))
       all_goals(refine D3 4 ?_;refine D5 ?_;refine NB fun b=>?_;refine D9 ?_)
       all_goals(refine D3 5 ?_;refine D5 ?_;(refine XAP fun v=>?_;refine bB 1 rfl ?_;rintro A2 c2 rfl d);refine D9 ?_)
       all_goals(refine DD 6 ?_;refine D3 7 ?_;refine D5 ?_;refine Y0 ?_;refine D9 ?_;refine D8 ?_)
      case' dr21_4=>
       (refine D5 ?_;refine NB fun b=>?_;refine D9 ?_)
       all_goals(refine D3 1 ?_;(with_reducible apply bS);(iterate 4 exact rfl);(((with_reducible apply gT);exact rfl;(repeat first|with_reducible exact bT|with_reducible apply cG);exact rfl)))
       all_goals(refine D3 5 ?_;refine D5 ?_;(refine XAP fun v=>?_;refine bB 1 rfl ?_;rintro A2 c2 rfl d);refine D9 ?_)
       all_goals(refine DD 6 ?_;refine D3 7 ?_;refine D5 ?_;refine Y0 ?_;refine D9 ?_;refine D8 ?_)
     all_goals try repeat' (first|refine KO ?_|(refine CF 53 ?_;refine HP2 4 rfl (ee▸lF p.lt (hm.mono ML) _) ?_;dsimp only[ca,na])|(refine CF 65 ?_;refine HU2 4 rfl (fJ p.lt (hm.mono ML) _) ?_;intro v9;dsimp only[ca,na])|refine KZ ?_|(refine KB ?_ ?_<;>intro hp))
     all_goals try(exfalso;simp_all;done)
     all_goals exact eS 4 u rfl (by exact(RG 3 rfl rfl rfl rfl rfl)) rfl (.refl _) fun μ' hle o=>⟨_,rfl,(by have h8:=KR.bI (bD (enc:=bV) (xs:=ps++[(x4,u4)]) (o _ (aS (aA))) (by simp) (by simp) (by rw[aD];rfl)) d.cap (Kids.app (h.mono hle) (Kids.single (l.mono hle)));rw[aE]at h8;exact h8)⟩
 ·have ae:FY E r f (ps.map (·.1)) s2=(ps.map (·.1),s2):=by
   cases f with
   |zero=>rfl
   |succ f=>rw[FY,if_neg hc]
  rw[ae]at hJ;subst hJ hq;by_cases he:s2.e=0
  ·have h9:isR E s2 ⟨#[93]⟩=true:=by simpa[he]using hc
   try repeat' (first|refine KO ?_|(refine CF 23 ?_;refine HP2 3 rfl (gY j.lt (hm.mono ML) _) ?_;dsimp only[ca,na])|(refine CF 65 ?_;refine HU2 3 rfl (fJ j.lt (hm.mono ML) _) ?_;intro v9;dsimp only[ca,na])|refine KZ ?_|(refine KB ?_ ?_<;>intro hp))
   all_goals try(exfalso;simp_all;done)
   exact eS 3 u rfl (by exact(RG 2 rfl rfl rfl rfl rfl)) rfl (.refl _) fun μ' hle o=>⟨_,rfl,KR.bI (bD (enc:=bV) (xs:=ps) (o _ (aA)) rfl (by simp) rfl) ad.cap (h.mono hle)⟩
  ·try repeat' (first|refine KO ?_|(refine CF 65 ?_;refine HU2 3 rfl (fJ j.lt (hm.mono ML) _) ?_;intro v9;dsimp only[ca,na])|refine KZ ?_)
   all_goals try(exfalso;simp_all;done)
   exact eS 3 u rfl (by exact(RG 2 rfl rfl rfl rfl rfl)) rfl (.refl _) fun μ' hle o=>⟨_,rfl,KR.bI (bD (enc:=bV) (xs:=ps) (o _ (aA)) rfl (by simp) rfl) ad.cap (h.mono hle)⟩
end
end Go.Proofs.YtknieidhopbngaaGreat
namespace Go.Vcg
open Go.RowKit
section
variable{P:Program}{μ:Mem}{l:bG}{L:List Bk}{w:World}
theorem tO{fn:Func}{n:Nat}{r r2:ResultVar}{v v2:Value}{μ0:Mem}{M:List Nat}{Lr:List Bk}{R:Mem→Value→Prop}{x y:Bk}(k:Nat)(o:∀D,M.count D≤1)(hr:fn.results= #[r,r2])(h:RV P μ l L r v)(h2:RV P μ l L r2 v2)(hL:splitB k L=some (Lr,[y]))(j:jC x y)
 (hp:∀μ',MLe μ μ' →(∀z∈Lr,Bk.sh z μ')→R μ' (.tuple #[v,v2])):
 GQ ⟨w,μ0,M,n⟩ (bodyPost P fn (fun e w' =>∃(v:Value) (μ' :Mem) (_:Unit),e=.returned v∧iO M w w' μ0 [x] μ' ∧R μ' v)) .ret μ l L:=fun a w' hs=>by
 have he:=iA hL;subst he;obtain⟨μ1,c,d,g⟩:=St.qT hs;obtain⟨μ2,hb,b⟩:=St.rH (L' :=[y]) (Lr:=[]) g;exact⟨hs.defers.none o,.tuple #[v,v2],results2 hr h h2 hs.rd,_,μ2,(),rfl,hb.le1 j,hp μ2 (c.trans b) fun z i=>Bk.wM (d z i) b⟩
end
end Go.Vcg
namespace Go.Proofs.YtknieidhopbngaaGreat
open Go.RowKit Go.Vcg
def TB(μ:Mem)(x:T×Bool)(v:Value):Prop:=∃u,v=.tuple #[.agg (dG x.1 u).toArray,.bool x.2]∧KR μ x.1.kids u
def TI(μ:Mem)(x:T×Int)(v:Value):Prop:=∃u,v=.tuple #[.agg (dG x.1 u).toArray,.int .i64 x.2]∧KR μ x.1.kids u
attribute [local irreducible] jE G GC GQ GA dV Calls IntKind.wrap Int.decLt Int.decLe
section
variable{E:TkE}{src:ByteArray}{V:RPl}{xb n:Nat}{r:RdR}{s:RdS}{μ:Mem}(hE:TOk E src)(hr:nB E src n r)(hw:rO E src V xb n r)(hi:In E src s)(hm:RM E V μ)
include hE hr hw hi hm
theorem DQ(hn:8*(E.ts.length-s.i)≤n+3):zCR E V xb 156 [.pointer (some ⟨xb,0,none⟩)] s (uR E r s).2 μ (fun μ' v=>TB μ' (uR E r s).1 v):=by
 intro w hμ p;have c:=bF p.diff;have hl:=hi.lt;generalize a:uR E r s=q;unfold uR bd at a;dsimp only at a;by_cases h1:(aJ E s).k=3
 ·rw[if_pos h1]at a;subst a;refine aC Tryz.func156 rfl Tryz.ntmps156 (by simp) hμ p ?_;try repeat' (first|refine KO ?_|(refine CF 22 ?_;refine HP1 1 rfl (gR hi.lt (hm.mono ML)) ?_;dsimp only[ca,na])|(refine CF 42 ?_;refine HP1 3 rfl (fH hi.lt (hm.mono ML)) ?_;dsimp only[ca,na])|refine KZ ?_|refine NB fun b=>?_)
  exact tO 3 c rfl (by exact(RG 2 rfl rfl rfl rfl rfl)) (aN rfl) rfl (.refl _) fun μ' hle d=>⟨_,rfl,KR.nil _ _ _⟩
 rw[if_neg h1]at a;by_cases h2:isR E s ⟨#[91]⟩=true
 ·rw[if_pos h2]at a;obtain⟨s1,e1,m1,i1,t1,o1,-⟩:=aT hE (mv0 hi) (cY h2);have j:=m1.inn hi;rw[e1]at a;have h2:=fun(μ9:Mem) (y:MLe μ μ9)=>hw.asg true 0 s1 μ9 j (fun h=>absurd h (by decide)) (by omega) (hm.mono y);have m2:=(hr.asg true 0 s1 j (fun h=>absurd h (by decide)) (by omega)).mv;generalize r.asg true 0 s1=p9 at a h2 m2;obtain⟨x2,s2⟩:=p9;dsimp only at a h2 m2;have g:=m2.inn j;have l2:=m2.le;have t2:=m2.lt;obtain⟨s3,e3,m3,l3,t3,o3⟩:=bW hE (mv0 g) ⟨#[93]⟩;have x:=m3.inn g;rw[e3]at a;subst a;refine aC Tryz.func156 rfl Tryz.ntmps156 (by simp) hμ p ?_;try repeat' (first|refine KO ?_|(refine CF 22 ?_;refine HP1 1 rfl (gR hi.lt (hm.mono ML)) ?_;dsimp only[ca,na])|(refine CF 23 ?_;refine HP2 3 rfl (gY hi.lt (hm.mono ML) _) ?_;dsimp only[ca,na])|(refine CF 42 ?_;refine HP1 3 rfl (e1▸fH hi.lt (hm.mono ML)) ?_;dsimp only[ca,na])|(refine CF 35 ?_;refine HR3 3 rfl (h2 _ ML) ?_;(rintro v2 μ2 l ⟨u2,rfl,o⟩;have o_u2:=o.one;have H2:MLe μ μ2:=MLe.trans ML l);dsimp only[ca,na])|(refine CF 65 ?_;refine HU2 3 rfl (e3▸fJ g.lt (hm.mono ML) _) ?_;intro v9;dsimp only[ca,na])|refine KZ ?_|refine XS0 ?_|refine XS2 ?_|refine NB fun b=>?_|(refine KB ?_ ?_<;>intro hp))
  all_goals try(exfalso;(simp_all;done))
  exact tO 3 c rfl (by exact(RG 2 rfl rfl rfl rfl rfl)) (aN rfl) rfl (.refl _) fun μ' hle d=>⟨_,rfl,o.mono hle⟩
 rw[if_neg h2]at a;by_cases h3:rQ (aJ E s)=true
 ·rw[if_pos h3]at a;subst a;refine aC Tryz.func156 rfl Tryz.ntmps156 (by simp) hμ p ?_;try repeat' (first|refine KO ?_|(refine CF 22 ?_;refine HP1 1 rfl (gR hi.lt (hm.mono ML)) ?_;dsimp only[ca,na])|(refine CF 23 ?_;refine HP2 3 rfl (gY hi.lt (hm.mono ML) _) ?_;dsimp only[ca,na])|(refine CF 42 ?_;refine HP1 3 rfl (fH hi.lt (hm.mono ML)) ?_;dsimp only[ca,na])|(refine CF 26 ?_;refine HU1 3 rfl (nT hi.lt (hm.mono ML)) ?_;intro v9;dsimp only[ca,na])|refine K2 163 (fun w μc hw u=>nR _ w μc hw) ?_|refine KZ ?_|refine NB fun b=>?_|(refine KB ?_ ?_<;>intro hp))
  all_goals try(exfalso;(simp_all;done))
  exact tO 3 c rfl (by exact(RG 2 rfl rfl rfl rfl rfl)) (aN rfl) rfl (.refl _) fun μ' hle d=>⟨_,rfl,KR.nil _ _ _⟩
 ·rw[if_neg h3]at a;subst a;refine aC Tryz.func156 rfl Tryz.ntmps156 (by simp) hμ p ?_;try repeat' (first|refine KO ?_|(refine CF 22 ?_;refine HP1 1 rfl (gR hi.lt (hm.mono ML)) ?_;dsimp only[ca,na])|(refine CF 23 ?_;refine HP2 3 rfl (gY hi.lt (hm.mono ML) _) ?_;dsimp only[ca,na])|(refine CF 42 ?_;refine HP1 3 rfl (fH hi.lt (hm.mono ML)) ?_;dsimp only[ca,na])|(refine CF 26 ?_;refine HU1 3 rfl (nT hi.lt (hm.mono ML)) ?_;intro v9;dsimp only[ca,na])|refine K2 163 (fun w μc hw u=>nR _ w μc hw) ?_|refine KZ ?_|refine NB fun b=>?_|(refine KB ?_ ?_<;>intro hp))
  all_goals try(exfalso;(simp_all;done))
  exact tO 3 c rfl (by exact(RG 2 rfl rfl rfl rfl rfl)) (aN rfl) rfl (.refl _) fun μ' hle d=>⟨_,rfl,KR.nil _ _ _⟩
theorem XX(hn:8*(E.ts.length-s.i)+5≤n):zCR E V xb 144 [.pointer (some ⟨xb,0,none⟩),oN (aJ E s)] s (vU E r (aJ E s) s).2 μ (fun μ' v=>TV μ' (vU E r (aJ E s) s).1 v):=by
 intro w hμ y;have l:=bF y.diff;have hl:=hi.lt;generalize o:vU E r (aJ E s) s=q;unfold vU bd at o;dsimp only at o;by_cases x:mL s (aJ E s)=true∧sgn (ahR E 1 s) ⟨#[58]⟩=false
 ·rw[if_pos x]at o;obtain⟨s1,e1,m1,i1,t1,o1,-⟩:=aT hE (mv0 hi) (rI x.1);have k:=m1.inn hi;rw[e1]at o;by_cases h2:isR E s1 ⟨#[61]⟩=true
  ·rw[if_pos h2]at o;have ee:cH E ⟨#[61]⟩ s1=bJ E s1:=by unfold cH;rw[if_pos h2]
   obtain⟨s2,e2,m2,i2,t2,o2,-⟩:=aT hE (mv0 k) (cY h2);have p:=m2.inn k;rw[e2]at o;rw[e2]at ee;have h3:=fun(μ9:Mem) (z:MLe μ μ9)=>hw.asg true 0 s2 μ9 p (fun h=>absurd h (by decide)) (by omega) (hm.mono z);have m3:=(hr.asg true 0 s2 p (fun h=>absurd h (by decide)) (by omega)).mv;generalize r.asg true 0 s2=p9 at o h3 m3;obtain⟨x3,s3⟩:=p9;dsimp only at o h3 m3;have aa:=m3.inn p;have l3:=m3.le;have t3:=m3.lt;subst o;refine aC Tryz.func144 rfl Tryz.ntmps144 (by simp) hμ y ?_;try repeat' (first|refine KO ?_|(refine CF 87 ?_;refine HP2 3 rfl (gF _) ?_;dsimp only[ca,na])|(refine CF 44 ?_;refine HP2 3 rfl (qY hi.lt (hm.mono ML) 1 (by decide)) ?_;dsimp only[ca,na])|refine K2 40 (fun w μc hw u=>gI _ _ w μc hw) ?_|(refine CF 42 ?_;refine HP1 3 rfl (e1▸fH hi.lt (hm.mono ML)) ?_;dsimp only[ca,na])|(refine CF 53 ?_;refine HP2 4 rfl (ee▸lF k.lt (hm.mono ML) _) ?_;dsimp only[ca,na])|refine KZ ?_|refine NB fun b=>?_|(refine KB ?_ ?_<;>intro hp))
   all_goals try(exfalso;simp_all;done)
   refine aW 8 _ (by kernel_rfl) rfl (aG (aG (aG (aK (aG aU))))) ?_;all_goals(refine DD 0 ?_;refine DD 1 ?_;refine DD 3 ?_)
   refine dS 2 4 (by kernel_rfl) ?dr22_2 ?dr22_4
   case' dr22_2=>
    (((with_reducible apply bS);(iterate 4 exact rfl);(((with_reducible apply gT);exact rfl;(repeat with_reducible exact bT);exact rfl))))
    all_goals(refine D3 4 ?_;refine D5 ?_;refine CF 35 ?_;refine HR3 4 rfl (h3 _ ML) ?_;(rintro v3 μ3 a ⟨u3,rfl,c⟩;have o_u3:=c.one;have H3:MLe μ μ3:=MLe.trans ML a);dsimp only[ca,na];refine D9 ?_)
    all_goals(refine D3 5 ?_;refine D5 ?_;refine NB fun b=>?_;refine D9 ?_;refine DD 6 ?_;refine D3 7 ?_;refine D5 ?_;refine Y0 ?_;refine D9 ?_;refine D8 ?_)
   case' dr22_4=>
    (refine D5 ?_;refine CF 35 ?_;refine HR3 4 rfl (h3 _ ML) ?_;(rintro v3 μ3 a ⟨u3,rfl,c⟩;have o_u3:=c.one;have H3:MLe μ μ3:=MLe.trans ML a);dsimp only[ca,na];refine D9 ?_)
    all_goals(refine D3 2 ?_;(with_reducible apply bS);(iterate 4 exact rfl);(((with_reducible apply gT);exact rfl;(repeat with_reducible exact bT);exact rfl)))
    all_goals(refine D3 5 ?_;refine D5 ?_;refine NB fun b=>?_;refine D9 ?_;refine DD 6 ?_;refine D3 7 ?_;refine D5 ?_;refine Y0 ?_;refine D9 ?_;refine D8 ?_)
   all_goals try repeat' (first|refine KZ ?_|refine NB fun b=>?_)
   all_goals rename_i b1
   all_goals exact eS 6 l rfl (by exact(RG 4 rfl rfl rfl rfl rfl)) rfl (.refl _) fun μ' hle d=>⟨_,rfl,KR.lit [(T.mk 31 (aJ E s).at' 0 0 (aJ E s).s [],Value.slice none 0 0),(nd 63 (aJ E s).at' [T.mk 34 (aJ E s).at' 0 0 (aJ E s).s [],x3],Value.slice (some ⟨b1,0,none⟩) 2 2)] (d _ (aA)) rfl (by repeat first|exact bH|refine bA rfl ?_) (Kids.two (KR.nil _ _ _) (KR.lit [(T.mk 34 (aJ E s).at' 0 0 (aJ E s).s [],Value.slice none 0 0),(x3,u3)] (d _ (aS (aA))) rfl (by repeat first|exact bH|refine bA rfl ?_) (Kids.two (KR.nil _ _ _) (c.mono hle))))⟩
  ·rw[if_neg h2]at o;have ee:cH E ⟨#[61]⟩ s1=s1:=by unfold cH;rw[if_neg h2]
   subst o;refine aC Tryz.func144 rfl Tryz.ntmps144 (by simp) hμ y ?_;try repeat' (first|refine KO ?_|(refine CF 87 ?_;refine HP2 3 rfl (gF _) ?_;dsimp only[ca,na])|(refine CF 44 ?_;refine HP2 3 rfl (qY hi.lt (hm.mono ML) 1 (by decide)) ?_;dsimp only[ca,na])|refine K2 40 (fun w μc hw u=>gI _ _ w μc hw) ?_|(refine CF 42 ?_;refine HP1 3 rfl (e1▸fH hi.lt (hm.mono ML)) ?_;dsimp only[ca,na])|(refine CF 53 ?_;refine HP2 4 rfl (ee▸lF k.lt (hm.mono ML) _) ?_;dsimp only[ca,na])|refine KZ ?_|refine NB fun b=>?_|(refine KB ?_ ?_<;>intro hp))
   all_goals try(exfalso;simp_all;done)
   exact eS 5 l rfl (by exact(RG 3 rfl rfl rfl rfl rfl)) rfl (.refl _) fun μ' hle d=>⟨_,rfl,KR.lit [(T.mk 31 (aJ E s).at' 0 0 (aJ E s).s [],Value.slice none 0 0),(T.mk 34 (aJ E s).at' 0 0 (aJ E s).s [],Value.slice none 0 0)] (d _ (aA)) rfl (by repeat first|exact bH|refine bA rfl ?_) (Kids.two (KR.nil _ _ _) (KR.nil _ _ _))⟩
 ·rw[if_neg x]at o;have h1:=fun(μ9:Mem) (z:MLe μ μ9)=>DQ hE hr hw hi (hm.mono z) (by omega);have m1:=(xL hE hr hi (by omega)).mv;generalize uR E r s=p9 at o h1 m1;obtain⟨k1,s1⟩:=p9;dsimp only at o h1 m1;have k:=m1.inn hi;have l1:=m1.le;have t1:=m1.lt;obtain⟨s2,e2,m2,l2,t2,o2⟩:=bW hE (mv0 k) ⟨#[58]⟩;have p:=m2.inn k;rw[e2]at o;have h3:=fun(μ9:Mem) (z:MLe μ μ9)=>qW hE hr hw p (hm.mono z) (by omega);have m3:=(mP hE hr p (by omega)).mv;generalize jJ E r s2=p9 at o h3 m3;obtain⟨x3,s3⟩:=p9;dsimp only at o h3 m3;have aa:=m3.inn p;have l3:=m3.le;have t3:=m3.lt;subst o;obtain⟨kx,kb⟩:=k1;dsimp only;cases ab:mL s (aJ E s)
  ·cases kb
   ·refine aC Tryz.func144 rfl Tryz.ntmps144 (by simp) hμ y ?_;try repeat' (first|refine KO ?_|(refine CF 87 ?_;refine HP2 3 rfl (gF _) ?_;dsimp only[ca,na])|(refine CF 44 ?_;refine HP2 3 rfl (qY hi.lt (hm.mono ML) 1 (by decide)) ?_;dsimp only[ca,na])|refine K2 40 (fun w μc hw u=>gI _ _ w μc hw) ?_|(refine CF 156 ?_;refine HR1 3 rfl (h1 _ ML) ?_;(rintro v1 μ1 g ⟨u1,rfl,j⟩;have o_u1:=j.one;have H1:MLe μ μ1:=MLe.trans ML g);dsimp only[ca,na])|(refine CF 65 ?_;refine HU2 4 rfl (e2▸fJ k.lt (hm.mono ML) _) ?_;intro v9;dsimp only[ca,na])|refine KZ ?_|refine XS0 ?_|refine NB fun b=>?_|(refine KB ?_ ?_<;>intro hp))
    all_goals try(exfalso;simp_all;done)
    refine aW 6 _ (by kernel_rfl) rfl (aK (aG (aG (aG (aG aU))))) ?_;all_goals(refine DD 0 ?_;refine DD 1 ?_)
    all_goals(refine D3 2 ?_;refine D5 ?_;refine CF 114 ?_;refine HR1 4 rfl (h3 _ ML) ?_;(rintro v3 μ3 a ⟨u3,rfl,c⟩;have o_u3:=c.one;have H3:MLe μ μ3:=MLe.trans ML a);dsimp only[ca,na];refine D9 ?_)
    all_goals(refine D3 3 ?_;refine D5 ?_;refine NB fun b=>?_;refine D9 ?_;refine DD 4 ?_;refine D3 5 ?_;refine D5 ?_;refine Y0 ?_;refine D9 ?_;refine D8 ?_)
    try repeat' (refine KZ ?_)
    exact eS 5 l rfl (by exact(RG 3 rfl rfl rfl rfl rfl)) rfl (.refl _) fun μ' hle d=>⟨_,rfl,KR.lit [(kx,u1),(x3,u3)] (d _ (aA)) rfl (by repeat first|exact bH|refine bA rfl ?_) (Kids.two ((j.mono a).mono hle) (c.mono hle))⟩
   ·refine aC Tryz.func144 rfl Tryz.ntmps144 (by simp) hμ y ?_;try repeat' (first|refine KO ?_|(refine CF 87 ?_;refine HP2 3 rfl (gF _) ?_;dsimp only[ca,na])|(refine CF 44 ?_;refine HP2 3 rfl (qY hi.lt (hm.mono ML) 1 (by decide)) ?_;dsimp only[ca,na])|refine K2 40 (fun w μc hw u=>gI _ _ w μc hw) ?_|(refine CF 156 ?_;refine HR1 3 rfl (h1 _ ML) ?_;(rintro v1 μ1 g ⟨u1,rfl,j⟩;have o_u1:=j.one;have H1:MLe μ μ1:=MLe.trans ML g);dsimp only[ca,na])|(refine CF 65 ?_;refine HU2 4 rfl (e2▸fJ k.lt (hm.mono ML) _) ?_;intro v9;dsimp only[ca,na])|refine KZ ?_|refine XS0 ?_|refine NB fun b=>?_|(refine KB ?_ ?_<;>intro hp))
    all_goals try(exfalso;simp_all;done)
    refine aW 6 _ (by kernel_rfl) rfl (aK (aG (aG (aG (aG aU))))) ?_;all_goals(refine DD 0 ?_;refine DD 1 ?_)
    all_goals(refine D3 2 ?_;refine D5 ?_;refine CF 114 ?_;refine HR1 4 rfl (h3 _ ML) ?_;(rintro v3 μ3 a ⟨u3,rfl,c⟩;have o_u3:=c.one;have H3:MLe μ μ3:=MLe.trans ML a);dsimp only[ca,na];refine D9 ?_)
    all_goals(refine D3 3 ?_;refine D5 ?_;refine NB fun b=>?_;refine D9 ?_;refine DD 4 ?_;refine D3 5 ?_;refine D5 ?_;refine Y0 ?_;refine D9 ?_;refine D8 ?_)
    try repeat' (refine KZ ?_)
    exact eS 5 l rfl (by exact(RG 3 rfl rfl rfl rfl rfl)) rfl (.refl _) fun μ' hle d=>⟨_,rfl,KR.lit [(kx,u1),(x3,u3)] (d _ (aA)) rfl (by repeat first|exact bH|refine bA rfl ?_) (Kids.two ((j.mono a).mono hle) (c.mono hle))⟩
  ·have ad:sgn (ahR E 1 s) ⟨#[58]⟩=true:=by
    cases h2:sgn (ahR E 1 s) ⟨#[58]⟩with
    |true=>rfl
    |false=>exact(x ⟨ab,h2⟩).elim
   cases kb
   ·refine aC Tryz.func144 rfl Tryz.ntmps144 (by simp) hμ y ?_;try repeat' (first|refine KO ?_|(refine CF 87 ?_;refine HP2 3 rfl (gF _) ?_;dsimp only[ca,na])|(refine CF 44 ?_;refine HP2 3 rfl (qY hi.lt (hm.mono ML) 1 (by decide)) ?_;dsimp only[ca,na])|refine K2 40 (fun w μc hw u=>gI _ _ w μc hw) ?_|(refine CF 156 ?_;refine HR1 3 rfl (h1 _ ML) ?_;(rintro v1 μ1 g ⟨u1,rfl,j⟩;have o_u1:=j.one;have H1:MLe μ μ1:=MLe.trans ML g);dsimp only[ca,na])|(refine CF 65 ?_;refine HU2 4 rfl (e2▸fJ k.lt (hm.mono ML) _) ?_;intro v9;dsimp only[ca,na])|refine KZ ?_|refine XS0 ?_|refine NB fun b=>?_|(refine KB ?_ ?_<;>intro hp))
    all_goals try(exfalso;simp_all;done)
    refine aW 6 _ (by kernel_rfl) rfl (aK (aG (aG (aG (aG aU))))) ?_;all_goals(refine DD 0 ?_;refine DD 1 ?_)
    all_goals(refine D3 2 ?_;refine D5 ?_;refine CF 114 ?_;refine HR1 4 rfl (h3 _ ML) ?_;(rintro v3 μ3 a ⟨u3,rfl,c⟩;have o_u3:=c.one;have H3:MLe μ μ3:=MLe.trans ML a);dsimp only[ca,na];refine D9 ?_)
    all_goals(refine D3 3 ?_;refine D5 ?_;refine NB fun b=>?_;refine D9 ?_;refine DD 4 ?_;refine D3 5 ?_;refine D5 ?_;refine Y0 ?_;refine D9 ?_;refine D8 ?_)
    try repeat' (refine KZ ?_)
    exact eS 5 l rfl (by exact(RG 3 rfl rfl rfl rfl rfl)) rfl (.refl _) fun μ' hle d=>⟨_,rfl,KR.lit [(kx,u1),(x3,u3)] (d _ (aA)) rfl (by repeat first|exact bH|refine bA rfl ?_) (Kids.two ((j.mono a).mono hle) (c.mono hle))⟩
   ·refine aC Tryz.func144 rfl Tryz.ntmps144 (by simp) hμ y ?_;try repeat' (first|refine KO ?_|(refine CF 87 ?_;refine HP2 3 rfl (gF _) ?_;dsimp only[ca,na])|(refine CF 44 ?_;refine HP2 3 rfl (qY hi.lt (hm.mono ML) 1 (by decide)) ?_;dsimp only[ca,na])|refine K2 40 (fun w μc hw u=>gI _ _ w μc hw) ?_|(refine CF 156 ?_;refine HR1 3 rfl (h1 _ ML) ?_;(rintro v1 μ1 g ⟨u1,rfl,j⟩;have o_u1:=j.one;have H1:MLe μ μ1:=MLe.trans ML g);dsimp only[ca,na])|(refine CF 65 ?_;refine HU2 4 rfl (e2▸fJ k.lt (hm.mono ML) _) ?_;intro v9;dsimp only[ca,na])|refine KZ ?_|refine XS0 ?_|refine NB fun b=>?_|(refine KB ?_ ?_<;>intro hp))
    all_goals try(exfalso;simp_all;done)
    refine aW 6 _ (by kernel_rfl) rfl (aK (aG (aG (aG (aG aU))))) ?_;all_goals(refine DD 0 ?_;refine DD 1 ?_)
    all_goals(refine D3 2 ?_;refine D5 ?_;refine CF 114 ?_;refine HR1 4 rfl (h3 _ ML) ?_;(rintro v3 μ3 a ⟨u3,rfl,c⟩;have o_u3:=c.one;have H3:MLe μ μ3:=MLe.trans ML a);dsimp only[ca,na];refine D9 ?_)
    all_goals(refine D3 3 ?_;refine D5 ?_;refine NB fun b=>?_;refine D9 ?_;refine DD 4 ?_;refine D3 5 ?_;refine D5 ?_;refine Y0 ?_;refine D9 ?_;refine D8 ?_)
    try repeat' (refine KZ ?_)
    exact eS 5 l rfl (by exact(RG 3 rfl rfl rfl rfl rfl)) rfl (.refl _) fun μ' hle d=>⟨_,rfl,KR.lit [(kx,u1),(x3,u3)] (d _ (aA)) rfl (by repeat first|exact bH|refine bA rfl ?_) (Kids.two ((j.mono a).mono hle) (c.mono hle))⟩
theorem UQ(ag:(aJ E s).k≠0)(hn:8*(E.ts.length-s.i)≤n+3):zCR E V xb 126 [.pointer (some ⟨xb,0,none⟩)] s (uC E r s).2 μ (fun μ' v=>TV μ' (uC E r s).1 v):=by
 intro w hμ hO;have p:=bF hO.diff;have hl:=hi.lt;have aj:=hm.few;generalize z:uC E r s=q;unfold uC bd at z;dsimp only at z;obtain⟨s1,e1,m1,i1,t1,o1,-⟩:=aT hE (mv0 hi) ag;have ai:=m1.inn hi;rw[e1]at z;generalize hQ:qE E r (E.ts.length+1) [] s1=Q at z;refine aC Tryz.func126 rfl Tryz.ntmps126 (by simp) hμ hO ?_;try repeat' (first|refine KO ?_|(refine CF 42 ?_;refine HP1 1 rfl (e1▸fH hi.lt (hm.mono ML)) ?_;dsimp only[ca,na])|refine KZ ?_|refine NB fun b=>?_)
 rename_i b2;refine dH (ι:=Nat×List (T×Value)×RdS×Mem×Value) (fun i=>MLe μ i.2.2.2.1∧Kids i.2.2.2.1 i.2.1∧In E src i.2.2.1∧(i.2.2.1.e=0→8*(E.ts.length-i.2.2.1.i)+5≤n)∧(i.2.2.1.e=0→E.ts.length-i.2.2.1.i<i.1)∧i.2.1.length+i.1=E.ts.length+1∧Q=qE E r i.1 (i.2.1.map (·.1)) i.2.2.1)
  (fun i=>i.1) (fun i=>i.2.2.2.1) (fun _=>[(0,.pointer (some ⟨xb,0,none⟩)),(2,.pointer (some ⟨b2,0,none⟩)),(3,.pointer (some ⟨b,0,none⟩))]) (fun i=>[.inr ⟨i.2.2.2.2,25,6,i.2.1.length,i.2.1.flatMap bV⟩,.inl ⟨b,25,6,[(0,.int .i64 61),(1,.int .i64 (aJ E s).at'),(2,.int .i64 0),(3,.int .i64 0),(4,.string ⟨#[]⟩),(5,i.2.2.2.2)]⟩,.inl ⟨b2,25,6,[]⟩,RB E V xb i.2.2.1])
  (E.ts.length+1,[],s1,μ,.slice none 0 0) ⟨MLe.refl _,Kids.nil _,ai,fun e=>by dsimp only;omega,fun _=>by dsimp only;omega,by simp,hQ.symm⟩ (fun a w hs=>(hs.kU 25 6).sel PU PS) ?_
 rintro⟨f,ps,s2,μ2,v⟩ ⟨H2,j,c,ab,hf,hlen,hJ⟩;dsimp only at H2 j c ab hf hlen hJ⊢;have t2:=c.lt;refine iZ 0 rfl ?_;rintro A1 c1 rfl ad;by_cases hc:s2.e=0∧isR E s2 ⟨#[125]⟩=false
 ·obtain⟨f,rfl⟩:∃g,f=g+1:=⟨f-1,by have:=hf hc.1;omega⟩;have ab:=ab hc.1;have hf:=hf hc.1;rw[qE,if_pos hc]at hJ;by_cases aa:isR E s2 ⟨#[46,46,46]⟩=true
  ·rw[if_pos aa]at hJ;dsimp only at hJ;obtain⟨s3,e3,m3,i3,t3,o3,-⟩:=aT hE (mv0 c) (cY aa);have u:=m3.inn c;rw[e3]at hJ;by_cases ae:mL s3 (aJ E s3)=true
   ·rw[if_pos ae]at hJ;subst hJ z;try repeat' (first|refine KO ?_|(refine CF 23 ?_;refine HP2 3 rfl (gY c.lt (hm.mono ML) _) ?_;dsimp only[ca,na])|(refine CF 23 ?_;refine HP2 4 rfl (gY c.lt (hm.mono ML) _) ?_;dsimp only[ca,na])|(refine CF 22 ?_;refine HP1 3 rfl (gR c.lt (hm.mono ML)) ?_;dsimp only[ca,na])|(refine CF 42 ?_;refine HP1 4 rfl (e3▸fH c.lt (hm.mono ML)) ?_;dsimp only[ca,na])|(refine CF 22 ?_;refine HP1 4 rfl (gR u.lt (hm.mono ML)) ?_;dsimp only[ca,na])|(refine CF 87 ?_;refine HP2 5 rfl (gF _) ?_;dsimp only[ca,na])|(refine CF 42 ?_;refine HP1 5 rfl (fH u.lt (hm.mono ML)) ?_;dsimp only[ca,na])|(refine CF 65 ?_;refine HU2 7 rfl (fJ (lt_next u.lt) (hm.mono ML) _) ?_;intro v9;dsimp only[ca,na])|refine KZ ?_|(refine XAP fun v=>?_;refine bB 4 rfl ?_;rintro A2 c2 rfl h)|refine NB fun b=>?_|(refine KB ?_ ?_<;>intro hp))
    all_goals try(exfalso;simp_all;done)
    rename_i b1;exact eS 7 p rfl (RG 6 rfl rfl rfl rfl rfl) rfl (.refl _) fun μ' hle l=>⟨_,rfl,(by have h8:=KR.bI (bD (enc:=bV) (xs:=ps++[(nd 64 (aJ E s2).at' [T.mk 34 (aJ E s3).at' 0 0 (aJ E s3).s []],Value.slice (some ⟨b1,0,none⟩) 1 1)]) (l _ (aS (aS (aS (aS (aA)))))) (by simp) (by simp) (by rw[aD];rfl)) h.cap (Kids.app (j.mono hle) (Kids.single (KR.lit [(T.mk 34 (aJ E s3).at' 0 0 (aJ E s3).s [],Value.slice none 0 0)] (l _ (aS (aA))) rfl (by repeat first|exact bH|refine bA rfl ?_) (Kids.single (KR.nil _ _ _)))));rw[aE]at h8;exact h8)⟩
   ·rw[if_neg ae]at hJ;subst hJ z;try repeat' (first|refine KO ?_|(refine CF 23 ?_;refine HP2 3 rfl (gY c.lt (hm.mono ML) _) ?_;dsimp only[ca,na])|(refine CF 23 ?_;refine HP2 4 rfl (gY c.lt (hm.mono ML) _) ?_;dsimp only[ca,na])|(refine CF 22 ?_;refine HP1 3 rfl (gR c.lt (hm.mono ML)) ?_;dsimp only[ca,na])|(refine CF 42 ?_;refine HP1 4 rfl (e3▸fH c.lt (hm.mono ML)) ?_;dsimp only[ca,na])|(refine CF 22 ?_;refine HP1 4 rfl (gR u.lt (hm.mono ML)) ?_;dsimp only[ca,na])|(refine CF 87 ?_;refine HP2 5 rfl (gF _) ?_;dsimp only[ca,na])|(refine CF 26 ?_;refine HU1 5 rfl (nT u.lt (hm.mono ML)) ?_;intro v9;dsimp only[ca,na])|(refine CF 42 ?_;refine HP1 5 rfl (fH (SS u.lt) (hm.mono ML)) ?_;dsimp only[ca,na])|(refine CF 65 ?_;refine HU2 7 rfl (fJ (lt_next (SS u.lt)) (hm.mono ML) _) ?_;intro v9;dsimp only[ca,na])|refine KZ ?_|(refine XAP fun v=>?_;refine bB 4 rfl ?_;rintro A2 c2 rfl h)|refine NB fun b=>?_|(refine KB ?_ ?_<;>intro hp))
    all_goals try(exfalso;simp_all;done)
    rename_i b1;exact eS 7 p rfl (RG 6 rfl rfl rfl rfl rfl) rfl (.refl _) fun μ' hle l=>⟨_,rfl,(by have h8:=KR.bI (bD (enc:=bV) (xs:=ps++[(nd 64 (aJ E s2).at' [T.mk 34 (aJ E s3).at' 0 0 (aJ E s3).s []],Value.slice (some ⟨b1,0,none⟩) 1 1)]) (l _ (aS (aS (aS (aS (aA)))))) (by simp) (by simp) (by rw[aD];rfl)) h.cap (Kids.app (j.mono hle) (Kids.single (KR.lit [(T.mk 34 (aJ E s3).at' 0 0 (aJ E s3).s [],Value.slice none 0 0)] (l _ (aS (aA))) rfl (by repeat first|exact bH|refine bA rfl ?_) (Kids.single (KR.nil _ _ _)))));rw[aE]at h8;exact h8)⟩
  ·rw [if_neg aa]at hJ;unfold bd at hJ;dsimp only at hJ;have h4:=fun(μ9:Mem) (h9:MLe μ μ9)=>XX hE hr hw c (hm.mono h9) (by omega);have m4:=(TF hE hr c (by omega)).mv;generalize vU E r (aJ E s2) s2=p9 at hJ h4 m4;obtain⟨x4,s4⟩:=p9;dsimp only at hJ h4 m4;have x:=m4.inn c;have l4:=m4.le;have t4:=m4.lt;by_cases y:isR E s4 ⟨#[44]⟩=true
   ·rw[if_pos y]at hJ;have ee:cH E ⟨#[44]⟩ s4=bJ E s4:=by unfold cH;rw[if_pos y]
    obtain⟨s5,e5,m5,i5,t5,o5,-⟩:=aT hE (mv0 x) (cY y);have ah:=m5.inn x;rw[e5]at hJ ee;try repeat' (first|refine KO ?_|(refine CF 23 ?_;refine HP2 3 rfl (gY c.lt (hm.mono ML) _) ?_;dsimp only[ca,na])|(refine CF 23 ?_;refine HP2 4 rfl (gY c.lt (hm.mono ML) _) ?_;dsimp only[ca,na])|(refine CF 22 ?_;refine HP1 3 rfl (gR c.lt (hm.mono ML)) ?_;dsimp only[ca,na])|refine KZ ?_|refine NB fun b=>?_|(refine KB ?_ ?_<;>intro hp))
    all_goals try(exfalso;simp_all;done)
    refine aW 9 _ (by kernel_rfl) rfl (aK (aG (aG (aG (aG aU))))) ?_;all_goals(refine DD 0 ?_;refine DD 2 ?_;refine DD 3 ?_)
    refine dS 1 4 (by kernel_rfl) ?dr23_1 ?dr23_4
    case' dr23_1=>
     (((with_reducible apply bS);(iterate 4 exact rfl);(((with_reducible apply gT);exact rfl;(repeat first|with_reducible exact bT|with_reducible apply cG);exact rfl))))
     all_goals(refine D3 4 ?_;refine D5 ?_;refine CF 144 ?_;refine HR2 4 rfl (h4 _ ML) ?_;(rintro v4 μ4 d ⟨u4,rfl,o⟩;have o_u4:=o.one;have H4:MLe μ μ4:=MLe.trans ML d;have j:=j.mono d);dsimp only[ca,na];refine D9 ?_)
     all_goals(refine D3 5 ?_;refine D5 ?_;refine NB fun b=>?_;refine D9 ?_)
     all_goals(refine D3 6 ?_;refine D5 ?_;(refine XAP fun v=>?_;refine bB 2 rfl ?_;rintro A2 c2 rfl h);refine D9 ?_)
     all_goals(refine DD 7 ?_;refine D3 8 ?_;refine D5 ?_;refine Y0 ?_;refine D9 ?_;refine D8 ?_)
    case' dr23_4=>
     (refine D5 ?_;refine CF 144 ?_;refine HR2 4 rfl (h4 _ ML) ?_;(rintro v4 μ4 d ⟨u4,rfl,o⟩;have o_u4:=o.one;have H4:MLe μ μ4:=MLe.trans ML d;have j:=j.mono d);dsimp only[ca,na];refine D9 ?_)
     refine dS 1 5 (by kernel_rfl) ?dr24_1 ?dr24_5
     case' dr24_1=>
      (((with_reducible apply bS);(iterate 4 exact rfl);(((with_reducible apply gT);exact rfl;(repeat first|with_reducible exact bT|with_reducible apply cG);exact rfl))))
      all_goals(refine D3 5 ?_;refine D5 ?_;refine NB fun b=>?_;refine D9 ?_)
      all_goals(refine D3 6 ?_;refine D5 ?_;(refine XAP fun v=>?_;refine bB 2 rfl ?_;rintro A2 c2 rfl h);refine D9 ?_)
      all_goals(refine DD 7 ?_;refine D3 8 ?_;refine D5 ?_;refine Y0 ?_;refine D9 ?_;refine D8 ?_)
     case' dr24_5=>
      (refine D5 ?_;refine NB fun b=>?_;refine D9 ?_)
      all_goals(refine D3 1 ?_;(with_reducible apply bS);(iterate 4 exact rfl);(((with_reducible apply gT);exact rfl;(repeat first|with_reducible exact bT|with_reducible apply cG);exact rfl)))
      all_goals(refine D3 6 ?_;refine D5 ?_;(refine XAP fun v=>?_;refine bB 2 rfl ?_;rintro A2 c2 rfl h);refine D9 ?_)
      all_goals(refine DD 7 ?_;refine D3 8 ?_;refine D5 ?_;refine Y0 ?_;refine D9 ?_;refine D8 ?_)
    all_goals try repeat' (first|refine KO ?_|(refine CF 53 ?_;refine HP2 5 rfl (ee▸lF x.lt (hm.mono ML) _) ?_;dsimp only[ca,na])|refine KZ ?_|(refine KB ?_ ?_<;>intro hp))
    all_goals try(exfalso;simp_all;done)
    all_goals refine dZ (f,ps++[(x4,u4)],s5,μ4,.slice A2 (ps.length+1) c2) ⟨H4,Kids.app j (Kids.single o),ah,fun e=>by dsimp only at e⊢;omega,fun e=>by dsimp only at e⊢;omega,by simp only[aB,aF,aL];omega,by dsimp only;rw[aE];exact hJ⟩ (by dsimp only;omega) rfl PU (by dsimp only;rw[aB,aD];exact PS)
   ·rw[if_neg y]at hJ;have ee:cH E ⟨#[44]⟩ s4=s4:=by unfold cH;rw[if_neg y]
    subst hJ z;try repeat' (first|refine KO ?_|(refine CF 23 ?_;refine HP2 3 rfl (gY c.lt (hm.mono ML) _) ?_;dsimp only[ca,na])|(refine CF 23 ?_;refine HP2 4 rfl (gY c.lt (hm.mono ML) _) ?_;dsimp only[ca,na])|(refine CF 22 ?_;refine HP1 3 rfl (gR c.lt (hm.mono ML)) ?_;dsimp only[ca,na])|refine KZ ?_|refine NB fun b=>?_|(refine KB ?_ ?_<;>intro hp))
    all_goals try(exfalso;simp_all;done)
    refine aW 9 _ (by kernel_rfl) rfl (aK (aG (aG (aG (aG aU))))) ?_;all_goals(refine DD 0 ?_;refine DD 2 ?_;refine DD 3 ?_)
    refine dS 1 4 (by kernel_rfl) ?dr25_1 ?dr25_4
    case' dr25_1=>
     (((with_reducible apply bS);(iterate 4 exact rfl);(((with_reducible apply gT);exact rfl;(repeat first|with_reducible exact bT|with_reducible apply cG);exact rfl))))
     all_goals(refine D3 4 ?_;refine D5 ?_;refine CF 144 ?_;refine HR2 4 rfl (h4 _ ML) ?_;(rintro v4 μ4 d ⟨u4,rfl,o⟩;have o_u4:=o.one;have H4:MLe μ μ4:=MLe.trans ML d;have j:=j.mono d);dsimp only[ca,na];refine D9 ?_)
     all_goals(refine D3 5 ?_;refine D5 ?_;refine NB fun b=>?_;refine D9 ?_)
     all_goals(refine D3 6 ?_;refine D5 ?_;(refine XAP fun v=>?_;refine bB 2 rfl ?_;rintro A2 c2 rfl h);refine D9 ?_)
     all_goals(refine DD 7 ?_;refine D3 8 ?_;refine D5 ?_;refine Y0 ?_;refine D9 ?_;refine D8 ?_)
    case' dr25_4=>
     (refine D5 ?_;refine CF 144 ?_;refine HR2 4 rfl (h4 _ ML) ?_;(rintro v4 μ4 d ⟨u4,rfl,o⟩;have o_u4:=o.one;have H4:MLe μ μ4:=MLe.trans ML d;have j:=j.mono d);dsimp only[ca,na];refine D9 ?_)
     refine dS 1 5 (by kernel_rfl) ?dr26_1 ?dr26_5
     case' dr26_1=>
      (((with_reducible apply bS);(iterate 4 exact rfl);(((with_reducible apply gT);exact rfl;(repeat first|with_reducible exact bT|with_reducible apply cG);exact rfl))))
      all_goals(refine D3 5 ?_;refine D5 ?_;refine NB fun b=>?_;refine D9 ?_)
      all_goals(refine D3 6 ?_;refine D5 ?_;(refine XAP fun v=>?_;refine bB 2 rfl ?_;rintro A2 c2 rfl h);refine D9 ?_)
      all_goals(refine DD 7 ?_;refine D3 8 ?_;refine D5 ?_;refine Y0 ?_;refine D9 ?_;refine D8 ?_)
     case' dr26_5=>
      (refine D5 ?_;refine NB fun b=>?_;refine D9 ?_)
      all_goals(refine D3 1 ?_;(with_reducible apply bS);(iterate 4 exact rfl);(((with_reducible apply gT);exact rfl;(repeat first|with_reducible exact bT|with_reducible apply cG);exact rfl)))
      all_goals(refine D3 6 ?_;refine D5 ?_;(refine XAP fun v=>?_;refine bB 2 rfl ?_;rintro A2 c2 rfl h);refine D9 ?_)
      all_goals(refine DD 7 ?_;refine D3 8 ?_;refine D5 ?_;refine Y0 ?_;refine D9 ?_;refine D8 ?_)
    all_goals try repeat' (first|refine KO ?_|(refine CF 53 ?_;refine HP2 5 rfl (ee▸lF x.lt (hm.mono ML) _) ?_;dsimp only[ca,na])|(refine CF 65 ?_;refine HU2 5 rfl (fJ x.lt (hm.mono ML) _) ?_;intro v9;dsimp only[ca,na])|refine KZ ?_|(refine KB ?_ ?_<;>intro hp))
    all_goals try(exfalso;simp_all;done)
    all_goals exact eS 5 p rfl (RG 4 rfl rfl rfl rfl rfl) rfl (.refl _) fun μ' hle l=>⟨_,rfl,(by have h8:=KR.bI (bD (enc:=bV) (xs:=ps++[(x4,u4)]) (l _ (aS (aS (aA)))) (by simp) (by simp) (by rw[aD];rfl)) h.cap (Kids.app (j.mono hle) (Kids.single (o.mono hle)));rw[aE]at h8;exact h8)⟩
 ·have af:qE E r f (ps.map (·.1)) s2=(ps.map (·.1),s2):=by
   cases f with
   |zero=>rfl
   |succ f=>rw[qE,if_neg hc]
  rw[af]at hJ;subst hJ z;by_cases he:s2.e=0
  ·have h9:isR E s2 ⟨#[125]⟩=true:=by simpa[he]using hc
   try repeat' (first|refine KO ?_|(refine CF 23 ?_;refine HP2 3 rfl (gY c.lt (hm.mono ML) _) ?_;dsimp only[ca,na])|(refine CF 65 ?_;refine HU2 3 rfl (fJ c.lt (hm.mono ML) _) ?_;intro v9;dsimp only[ca,na])|refine KZ ?_|(refine KB ?_ ?_<;>intro hp))
   all_goals try(exfalso;simp_all;done)
   exact eS 3 p rfl (by exact(RG 2 rfl rfl rfl rfl rfl)) rfl (.refl _) fun μ' hle l=>⟨_,rfl,KR.bI (bD (enc:=bV) (xs:=ps) (l _ (aA)) rfl (by simp) rfl) ad.cap (j.mono hle)⟩
  ·try repeat' (first|refine KO ?_|(refine CF 65 ?_;refine HU2 3 rfl (fJ c.lt (hm.mono ML) _) ?_;intro v9;dsimp only[ca,na])|refine KZ ?_)
   all_goals try(exfalso;simp_all;done)
   exact eS 3 p rfl (by exact(RG 2 rfl rfl rfl rfl rfl)) rfl (.refl _) fun μ' hle l=>⟨_,rfl,KR.bI (bD (enc:=bV) (xs:=ps) (l _ (aA)) rfl (by simp) rfl) ad.cap (j.mono hle)⟩
theorem UN(hn:8*(E.ts.length-s.i)≤n+3):zCR E V xb 111 [.pointer (some ⟨xb,0,none⟩)] s (tL E r s).2 μ (fun μ' v=>TV μ' (tL E r s).1 v):=by
 intro w hμ h;have a:=bF h.diff;have hl:=hi.lt;generalize c:tL E r s=q;unfold tL at c;dsimp only at c;by_cases h1:mL s (aJ E s)=true
 ·rw[if_pos h1]at c;subst c;refine aC Tryz.func111 rfl Tryz.ntmps111 (by simp) hμ h ?_;try repeat' (first|refine KO ?_|(refine CF 22 ?_;refine HP1 1 rfl (gR hi.lt (hm.mono ML)) ?_;dsimp only[ca,na])|(refine CF 23 ?_;refine HP2 2 rfl (gY hi.lt (hm.mono ML) _) ?_;dsimp only[ca,na])|(refine CF 42 ?_;refine HP1 2 rfl (fH hi.lt (hm.mono ML)) ?_;dsimp only[ca,na])|(refine CF 26 ?_;refine HU1 2 rfl (nT hi.lt (hm.mono ML)) ?_;intro v9;dsimp only[ca,na])|(refine CF 87 ?_;refine HP2 2 rfl (gF _) ?_;dsimp only[ca,na])|refine KZ ?_|refine NB fun b=>?_|(refine KB ?_ ?_<;>intro hp))
  all_goals try(exfalso;simp_all;done)
  exact eS 2 a rfl (by exact(RG 1 rfl rfl rfl rfl rfl)) rfl (.refl _) fun μ' hle j=>⟨_,rfl,KR.nil _ _ _⟩
 rw[if_neg h1]at c;by_cases h2:isR E s ⟨#[91]⟩=true
 ·rw[if_pos h2]at c;have h3:=aEv hE hr hw hi hm (cY h2) hn;rw[c]at h3;refine aC Tryz.func111 rfl Tryz.ntmps111 (by simp) hμ h ?_;try repeat' (first|refine KO ?_|(refine CF 22 ?_;refine HP1 1 rfl (gR hi.lt (hm.mono ML)) ?_;dsimp only[ca,na])|(refine CF 23 ?_;refine HP2 2 rfl (gY hi.lt (hm.mono ML) _) ?_;dsimp only[ca,na])|(refine CF 42 ?_;refine HP1 2 rfl (fH hi.lt (hm.mono ML)) ?_;dsimp only[ca,na])|(refine CF 26 ?_;refine HU1 2 rfl (nT hi.lt (hm.mono ML)) ?_;intro v9;dsimp only[ca,na])|(refine CF 87 ?_;refine HP2 2 rfl (gF _) ?_;dsimp only[ca,na])|(refine CF 125 ?_;refine HR1 2 rfl h3 ?_;(rintro v3 μ3 g ⟨u3,rfl,d⟩;have o3:=d.one);dsimp only[ca,na])|refine KZ ?_|refine XS1 ?_|refine NB fun b=>?_|(refine KB ?_ ?_<;>intro hp))
  all_goals try(exfalso;simp_all;done)
  exact nS 2 a rfl (by exact(RG 1 rfl rfl rfl rfl rfl)) rfl rfl fun μ' hle=>⟨_,rfl,d.mono hle⟩
 rw[if_neg h2]at c;by_cases h4:isR E s ⟨#[123]⟩=true
 ·rw[if_pos h4]at c;have h3:=UQ hE hr hw hi hm (cY h4) hn;rw[c]at h3;refine aC Tryz.func111 rfl Tryz.ntmps111 (by simp) hμ h ?_;try repeat' (first|refine KO ?_|(refine CF 22 ?_;refine HP1 1 rfl (gR hi.lt (hm.mono ML)) ?_;dsimp only[ca,na])|(refine CF 23 ?_;refine HP2 2 rfl (gY hi.lt (hm.mono ML) _) ?_;dsimp only[ca,na])|(refine CF 42 ?_;refine HP1 2 rfl (fH hi.lt (hm.mono ML)) ?_;dsimp only[ca,na])|(refine CF 26 ?_;refine HU1 2 rfl (nT hi.lt (hm.mono ML)) ?_;intro v9;dsimp only[ca,na])|(refine CF 87 ?_;refine HP2 2 rfl (gF _) ?_;dsimp only[ca,na])|(refine CF 126 ?_;refine HR1 2 rfl h3 ?_;(rintro v3 μ3 g ⟨u3,rfl,d⟩;have o3:=d.one);dsimp only[ca,na])|refine KZ ?_|refine XS1 ?_|refine NB fun b=>?_|(refine KB ?_ ?_<;>intro hp))
  all_goals try(exfalso;simp_all;done)
  exact nS 2 a rfl (by exact(RG 1 rfl rfl rfl rfl rfl)) rfl rfl fun μ' hle=>⟨_,rfl,d.mono hle⟩
 ·rw[if_neg h4]at c;subst c;refine aC Tryz.func111 rfl Tryz.ntmps111 (by simp) hμ h ?_;try repeat' (first|refine KO ?_|(refine CF 22 ?_;refine HP1 1 rfl (gR hi.lt (hm.mono ML)) ?_;dsimp only[ca,na])|(refine CF 23 ?_;refine HP2 2 rfl (gY hi.lt (hm.mono ML) _) ?_;dsimp only[ca,na])|(refine CF 42 ?_;refine HP1 2 rfl (fH hi.lt (hm.mono ML)) ?_;dsimp only[ca,na])|(refine CF 26 ?_;refine HU1 2 rfl (nT hi.lt (hm.mono ML)) ?_;intro v9;dsimp only[ca,na])|(refine CF 87 ?_;refine HP2 2 rfl (gF _) ?_;dsimp only[ca,na])|refine KZ ?_|refine NB fun b=>?_|(refine KB ?_ ?_<;>intro hp))
  all_goals try(exfalso;simp_all;done)
  exact eS 2 a rfl (by exact(RG 1 rfl rfl rfl rfl rfl)) rfl (.refl _) fun μ' hle j=>⟨_,rfl,KR.nil _ _ _⟩
end
end Go.Proofs.YtknieidhopbngaaGreat
