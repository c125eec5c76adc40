/- Package read: statements. -/
import Derived.Test.YtknieidhopbngaaGreatQaw
set_option maxRecDepth 20000
set_option maxHeartbeats 2000000
namespace Go.Proofs.YtknieidhopbngaaGreat
section
open Go.RowKit Go.Vcg
attribute [local irreducible] jE G GC GQ GA dV Calls IntKind.wrap Int.decLt Int.decLe
section
variable{E:TkE}{src:ByteArray}{V:RPl}{xb n:Nat}{r:RdR}{s:RdS}{μ:Mem}(hE:TOk E src)(hr:nB E src n r)(hw:rO E src V xb n r)(h8:∀b s,(r.stm b s).1.op=8→(r.stm b s).1.kids≠[])(hi:In E src s)(hm:RM E V μ)
include hE hr hw h8 hi hm
theorem UM(w:ByteArray)(many:Bool)(j:(aJ E s).k≠0)(hn:8*(E.ts.length-s.i)+5≤n)(ad:E.ts.length≤30000):zCR E V xb 43 [.pointer (some ⟨xb,0,none⟩),.string w,.bool many] s (oW E r w many s).2 μ (fun μ' v=>TB μ' (oW E r w many s).1 v):=by
 intro w9 hμ u;have g:=bF u.diff;have hl:=hi.lt;generalize a:oW E r w many s=q;unfold oW bd at a;try dsimp only at a
 by_cases y1:w=⟨#[118,97,114]⟩∨w=⟨#[99,111,110,115,116]⟩∨w=⟨#[108,101,116]⟩
 ·rw [if_pos y1]at a;by_cases ew:w=⟨#[118,97,114]⟩
  ·subst ew;rw[if_neg (fun h=>h.1 rfl)]at a;have h1:=fun(μ9:Mem) (p:MLe μ μ9)=>CC hE hr hw hi (hm.mono p) true j (by omega);have m1:=(zL hE hr true hi j (by omega)).mv;generalize uM E r true s=p9 at a h1 m1;obtain⟨x1,s1⟩:=p9;dsimp only at a h1 m1;have l:=m1.inn hi;have l1:=m1.le;have t1:=m1.lt;obtain⟨s2,e2,m2,l2,t2,o2⟩:=kW hE (mv0 l);have x:=m2.inn l;rw[e2]at a;subst a;refine aC Tryz.func43 rfl Tryz.ntmps43 (by simp) hμ u ?_;try repeat' (first|refine KO ?_|(refine CF 22 ?_;refine GP1 rfl (bK (by assumption) (hm.mono ML)) ?_;dsimp only[ca,na])|(refine CF 45 ?_;refine GU1 rfl (oR (by assumption) (by assumption) (hm.mono ML)) ?_;intro v9;dsimp only[ca,na])|(refine CF 66 ?_;refine GR2 rfl (h1 _ ML) ?_;(rintro v1 μ1 c ⟨u1,rfl,d⟩;have o_u1:=d.one;have H1:MLe μ μ1:=MLe.trans ML c);dsimp only[ca,na])|refine KZ ?_|refine XS0 ?_|refine XS1 ?_|refine NB fun b=>?_)
   all_goals(apply jN g rfl;exact(RG 1 rfl rfl rfl rfl rfl);exact aN rfl;exact rfl;exact .refl _;exact fun μ' hle o=>d.mono hle)
  ·have y1_:=iM y1 ew;by_cases ew:w=⟨#[99,111,110,115,116]⟩
   ·subst ew;cases many
    ·rw[if_pos ⟨by decide,rfl⟩]at a;obtain⟨s1,e1,m1,l1,t1,o1⟩:=kV hE (mv0 hi);have l:=m1.inn hi;rw[e1]at a;subst a;refine aC Tryz.func43 rfl Tryz.ntmps43 (by simp) hμ u ?_;try repeat' (first|refine KO ?_|(refine CF 22 ?_;refine GP1 rfl (bK (by assumption) (hm.mono ML)) ?_;dsimp only[ca,na])|(refine CF 26 ?_;refine GU1 rfl (lY (by assumption) (by assumption) (hm.mono ML)) ?_;intro v9;dsimp only[ca,na])|refine KZ ?_|refine NB fun b=>?_)
     all_goals(apply jN g rfl;exact(RG 0 rfl rfl rfl rfl rfl);exact aN rfl;exact rfl;exact .refl _;exact fun μ' hle o=>KR.nil _ _ _)
    ·rw[if_neg (fun h=>by cases h.2)]at a;have h1:=fun(μ9:Mem) (p:MLe μ μ9)=>CC hE hr hw hi (hm.mono p) true j (by omega);have m1:=(zL hE hr true hi j (by omega)).mv;generalize uM E r true s=p9 at a h1 m1;obtain⟨x1,s1⟩:=p9;dsimp only at a h1 m1;have l:=m1.inn hi;have l1:=m1.le;have t1:=m1.lt;obtain⟨s2,e2,m2,l2,t2,o2⟩:=kW hE (mv0 l);have x:=m2.inn l;rw[e2]at a;subst a;refine aC Tryz.func43 rfl Tryz.ntmps43 (by simp) hμ u ?_;try repeat' (first|refine KO ?_|(refine CF 22 ?_;refine GP1 rfl (bK (by assumption) (hm.mono ML)) ?_;dsimp only[ca,na])|(refine CF 45 ?_;refine GU1 rfl (oR (by assumption) (by assumption) (hm.mono ML)) ?_;intro v9;dsimp only[ca,na])|(refine CF 66 ?_;refine GR2 rfl (h1 _ ML) ?_;(rintro v1 μ1 c ⟨u1,rfl,d⟩;have o_u1:=d.one;have H1:MLe μ μ1:=MLe.trans ML c);dsimp only[ca,na])|refine KZ ?_|refine XS0 ?_|refine XS1 ?_|refine NB fun b=>?_)
     all_goals(apply jN g rfl;exact(RG 1 rfl rfl rfl rfl rfl);exact aN rfl;exact rfl;exact .refl _;exact fun μ' hle o=>d.mono hle)
   ·have y1__:=iM y1_ ew;have ew:=y1__;subst ew;cases many
    ·rw[if_pos ⟨by decide,rfl⟩]at a;obtain⟨s1,e1,m1,l1,t1,o1⟩:=kV hE (mv0 hi);have l:=m1.inn hi;rw[e1]at a;subst a;refine aC Tryz.func43 rfl Tryz.ntmps43 (by simp) hμ u ?_;try repeat' (first|refine KO ?_|(refine CF 22 ?_;refine GP1 rfl (bK (by assumption) (hm.mono ML)) ?_;dsimp only[ca,na])|(refine CF 26 ?_;refine GU1 rfl (lY (by assumption) (by assumption) (hm.mono ML)) ?_;intro v9;dsimp only[ca,na])|refine KZ ?_|refine NB fun b=>?_)
     all_goals(apply jN g rfl;exact(RG 0 rfl rfl rfl rfl rfl);exact aN rfl;exact rfl;exact .refl _;exact fun μ' hle o=>KR.nil _ _ _)
    ·rw[if_neg (fun h=>by cases h.2)]at a;have h1:=fun(μ9:Mem) (p:MLe μ μ9)=>CC hE hr hw hi (hm.mono p) true j (by omega);have m1:=(zL hE hr true hi j (by omega)).mv;generalize uM E r true s=p9 at a h1 m1;obtain⟨x1,s1⟩:=p9;dsimp only at a h1 m1;have l:=m1.inn hi;have l1:=m1.le;have t1:=m1.lt;obtain⟨s2,e2,m2,l2,t2,o2⟩:=kW hE (mv0 l);have x:=m2.inn l;rw[e2]at a;subst a;refine aC Tryz.func43 rfl Tryz.ntmps43 (by simp) hμ u ?_;try repeat' (first|refine KO ?_|(refine CF 22 ?_;refine GP1 rfl (bK (by assumption) (hm.mono ML)) ?_;dsimp only[ca,na])|(refine CF 45 ?_;refine GU1 rfl (oR (by assumption) (by assumption) (hm.mono ML)) ?_;intro v9;dsimp only[ca,na])|(refine CF 66 ?_;refine GR2 rfl (h1 _ ML) ?_;(rintro v1 μ1 c ⟨u1,rfl,d⟩;have o_u1:=d.one;have H1:MLe μ μ1:=MLe.trans ML c);dsimp only[ca,na])|refine KZ ?_|refine XS0 ?_|refine XS1 ?_|refine NB fun b=>?_)
     all_goals(apply jN g rfl;exact(RG 1 rfl rfl rfl rfl rfl);exact aN rfl;exact rfl;exact .refl _;exact fun μ' hle o=>d.mono hle)
 ·rw [if_neg y1]at a;simp only[not_or]at y1;obtain⟨ny10,ny11,ny12⟩:=id y1;by_cases y2:w=⟨#[102,117,110,99,116,105,111,110]⟩
  ·rw[if_pos y2]at a;have ew:=y2;subst ew;cases many
   ·rw[if_neg (by decide)]at a;obtain⟨s1,e1,m1,l1,t1,o1⟩:=kV hE (mv0 hi);have l:=m1.inn hi;rw[e1]at a;subst a;refine aC Tryz.func43 rfl Tryz.ntmps43 (by simp) hμ u ?_;try repeat' (first|refine KO ?_|(refine CF 22 ?_;refine GP1 rfl (bK (by assumption) (hm.mono ML)) ?_;dsimp only[ca,na])|(refine CF 26 ?_;refine GU1 rfl (lY (by assumption) (by assumption) (hm.mono ML)) ?_;intro v9;dsimp only[ca,na])|refine KZ ?_|refine NB fun b=>?_)
    all_goals(apply jN g rfl;exact(RG 0 rfl rfl rfl rfl rfl);exact aN rfl;exact rfl;exact .refl _;exact fun μ' hle o=>KR.nil _ _ _)
   ·rw[if_pos rfl]at a;have h1:=fun(μ9:Mem) (p:MLe μ μ9)=>AY hE hr hw h8 hi (hm.mono p) true j (by omega);have m1:=(uB hE hr true hi j (by omega)).mv;generalize kC E r true s=p9 at a h1 m1;obtain⟨x1,s1⟩:=p9;dsimp only at a h1 m1;have l:=m1.inn hi;have l1:=m1.le;have t1:=m1.lt;subst a;refine aC Tryz.func43 rfl Tryz.ntmps43 (by simp) hμ u ?_;try repeat' (first|refine KO ?_|(refine CF 22 ?_;refine GP1 rfl (bK (by assumption) (hm.mono ML)) ?_;dsimp only[ca,na])|(refine CF 67 ?_;refine GR2 rfl (h1 _ ML) ?_;(rintro v1 μ1 c ⟨u1,rfl,d⟩;have o_u1:=d.one;have H1:MLe μ μ1:=MLe.trans ML c);dsimp only[ca,na])|refine KZ ?_|refine XS0 ?_|refine NB fun b=>?_)
    all_goals(apply jN g rfl;exact(RG 0 rfl rfl rfl rfl rfl);exact aN rfl;exact rfl;exact .refl _;exact fun μ' hle o=>d.mono hle)
  ·rw [if_neg y2]at a;by_cases y3:w=⟨#[105,102]⟩
   ·rw[if_pos y3]at a;have ew:=y3;subst ew;have h1:=fun(μ9:Mem) (p:MLe μ μ9)=>UR hE hr hw hi (hm.mono p) j (by omega);have m1:=(NL hE hr hi j (by omega)).mv;generalize pB E r s=p9 at a h1 m1;obtain⟨x1,s1⟩:=p9;dsimp only at a h1 m1;have l:=m1.inn hi;have l1:=m1.le;have t1:=m1.lt;subst a;refine aC Tryz.func43 rfl Tryz.ntmps43 (by simp) hμ u ?_;try repeat' (first|refine KO ?_|(refine CF 22 ?_;refine GP1 rfl (bK (by assumption) (hm.mono ML)) ?_;dsimp only[ca,na])|(refine CF 68 ?_;refine GR1 rfl (h1 _ ML) ?_;(rintro v1 μ1 c ⟨u1,rfl,d⟩;have o_u1:=d.one;have H1:MLe μ μ1:=MLe.trans ML c);dsimp only[ca,na])|refine KZ ?_|refine XS0 ?_|refine NB fun b=>?_)
    all_goals(apply jN g rfl;exact(RG 0 rfl rfl rfl rfl rfl);exact aN rfl;exact rfl;exact .refl _;exact fun μ' hle o=>d.mono hle)
   ·rw [if_neg y3]at a;by_cases y4:w=⟨#[119,104,105,108,101]⟩
    ·rw[if_pos y4]at a;have ew:=y4;subst ew;obtain⟨s1,e1,m1,i1,t1,o1,-⟩:=aT hE (mv0 hi) j;have l:=m1.inn hi;rw[e1]at a;have h2:=fun(μ9:Mem) (p:MLe μ μ9)=>vH hE hr hw l (hm.mono p) (by omega);have m2:=(qH hE hr l (by omega)).mv;generalize nJ E r s1=p9 at a h2 m2;obtain⟨x2,s2⟩:=p9;dsimp only at a h2 m2;have x:=m2.inn l;have l2:=m2.le;have t2:=m2.lt;have h3:=fun(μ9:Mem) (p:MLe μ μ9)=>hw.stm false _ μ9 x (by omega) (hm.mono p);have m3:=(hr.stm false _ x (by omega)).mv;generalize r.stm false s2=p9 at a h3 m3;obtain⟨x3,s3⟩:=p9;dsimp only at a h3 m3;have ae:=m3.inn x;have l3:=m3.le;have t3:=m3.lt;subst a;refine aC Tryz.func43 rfl Tryz.ntmps43 (by simp) hμ u ?_;try repeat' (first|refine KO ?_|(refine CF 22 ?_;refine GP1 rfl (bK (by assumption) (hm.mono ML)) ?_;dsimp only[ca,na])|(refine CF 42 ?_;refine GP1 rfl (bN (by assumption) (by assumption) (hm.mono ML)) ?_;dsimp only[ca,na])|(refine CF 69 ?_;refine GR1 rfl (h2 _ ML) ?_;(rintro v2 μ2 aa ⟨u2,rfl,y⟩;have o_u2:=y.one;have H2:MLe μ μ2:=MLe.trans ML aa);dsimp only[ca,na])|refine KZ ?_|refine XS0 ?_|refine NB fun b=>?_)
     refine aW 8 _ (by kernel_rfl) rfl (aK (aG (aG aU))) ?_;all_goals(refine DD 0 ?_;refine DD 1 ?_;refine DD 2 ?_)
     all_goals(refine D3 3 ?_;refine D5 ?_;(refine CF 25 ?_;refine GR2 rfl (h3 _ ML) ?_;(rintro v3 μ3 z ⟨u3,rfl,ab⟩;have o_u3:=ab.one;have H3:MLe μ μ3:=MLe.trans ML z;have y:=y.mono z);dsimp only[ca,na]);refine D9 ?_)
     all_goals(refine D3 4 ?_;refine D5 ?_;refine NB fun b=>?_;refine D9 ?_;refine DD 5 ?_;refine D3 6 ?_;refine D5 ?_;refine Y0 ?_;refine D9 ?_;refine DD 7 ?_;refine D8 ?_)
     all_goals try repeat' (refine KO ?_)
     all_goals(apply jN g rfl;exact(RG 2 rfl rfl rfl rfl rfl);exact aN rfl;exact rfl;exact .refl _;exact fun μ' hle o=>KR.eT [(x2,u2),(x3,u3)] (o _ (by exact(aA))) rfl (by repeat first|exact bH|refine bA rfl ?_) (Kids.cons (y.mono hle) (Kids.cons (ab.mono hle) (Kids.nil _))))
    ·rw [if_neg y4]at a;by_cases y5:w=⟨#[100,111]⟩
     ·rw[if_pos y5]at a;have ew:=y5;subst ew;have h1:=fun(μ9:Mem) (p:MLe μ μ9)=>aGm hE hr hw hi (hm.mono p) j (by omega);have m1:=(aHl hE hr hi j (by omega)).mv;generalize doM E r s=p9 at a h1 m1;obtain⟨x1,s1⟩:=p9;dsimp only at a h1 m1;have l:=m1.inn hi;have l1:=m1.le;have t1:=m1.lt;subst a;refine aC Tryz.func43 rfl Tryz.ntmps43 (by simp) hμ u ?_;try repeat' (first|refine KO ?_|(refine CF 22 ?_;refine GP1 rfl (bK (by assumption) (hm.mono ML)) ?_;dsimp only[ca,na])|(refine CF 70 ?_;refine GR1 rfl (h1 _ ML) ?_;(rintro v1 μ1 c ⟨u1,rfl,d⟩;have o_u1:=d.one;have H1:MLe μ μ1:=MLe.trans ML c);dsimp only[ca,na])|refine KZ ?_|refine XS0 ?_|refine NB fun b=>?_)
      all_goals(apply jN g rfl;exact(RG 0 rfl rfl rfl rfl rfl);exact aN rfl;exact rfl;exact .refl _;exact fun μ' hle o=>d.mono hle)
     ·rw [if_neg y5]at a;by_cases y6:w=⟨#[102,111,114]⟩
      ·rw[if_pos y6]at a;have ew:=y6;subst ew;have h1:=fun(μ9:Mem) (p:MLe μ μ9)=>aBk hE hr hw h8 hi (hm.mono p) j (by omega) ad;have m1:=(YT hE hr hi j (by omega)).mv;generalize xK E r s=p9 at a h1 m1;obtain⟨x1,s1⟩:=p9;dsimp only at a h1 m1;have l:=m1.inn hi;have l1:=m1.le;have t1:=m1.lt;subst a;refine aC Tryz.func43 rfl Tryz.ntmps43 (by simp) hμ u ?_;try repeat' (first|refine KO ?_|(refine CF 22 ?_;refine GP1 rfl (bK (by assumption) (hm.mono ML)) ?_;dsimp only[ca,na])|(refine CF 71 ?_;refine GR1 rfl (h1 _ ML) ?_;(rintro v1 μ1 c ⟨u1,rfl,d⟩;have o_u1:=d.one;have H1:MLe μ μ1:=MLe.trans ML c);dsimp only[ca,na])|refine KZ ?_|refine XS0 ?_|refine NB fun b=>?_)
       all_goals(apply jN g rfl;exact(RG 0 rfl rfl rfl rfl rfl);exact aN rfl;exact rfl;exact .refl _;exact fun μ' hle o=>d.mono hle)
      ·rw [if_neg y6]at a;by_cases y7:w=⟨#[99,111,110,116,105,110,117,101]⟩∨w=⟨#[98,114,101,97,107]⟩∨w=⟨#[114,101,116,117,114,110]⟩∨w=⟨#[116,104,114,111,119]⟩
       ·rw [if_pos y7]at a;by_cases ew:w=⟨#[99,111,110,116,105,110,117,101]⟩
        ·subst ew;have h1:=fun(μ9:Mem) (p:MLe μ μ9)=>CE hE hr hw hi (hm.mono p) ⟨#[99,111,110,116,105,110,117,101]⟩ j (by omega);have m1:=(EF hE hr ⟨#[99,111,110,116,105,110,117,101]⟩ hi j (by omega)).mv;generalize sX E r ⟨#[99,111,110,116,105,110,117,101]⟩ s=p9 at a h1 m1;obtain⟨x1,s1⟩:=p9;dsimp only at a h1 m1;have l:=m1.inn hi;have l1:=m1.le;have t1:=m1.lt;subst a;refine aC Tryz.func43 rfl Tryz.ntmps43 (by simp) hμ u ?_;try repeat' (first|refine KO ?_|(refine CF 22 ?_;refine GP1 rfl (bK (by assumption) (hm.mono ML)) ?_;dsimp only[ca,na])|(refine CF 72 ?_;refine GR2 rfl (h1 _ ML) ?_;(rintro v1 μ1 c ⟨u1,rfl,d⟩;have o_u1:=d.one;have H1:MLe μ μ1:=MLe.trans ML c);dsimp only[ca,na])|refine KZ ?_|refine XS0 ?_|refine NB fun b=>?_)
         all_goals(apply jN g rfl;exact(RG 0 rfl rfl rfl rfl rfl);exact aN rfl;exact rfl;exact .refl _;exact fun μ' hle o=>d.mono hle)
        ·have y7_:=iM y7 ew;by_cases ew:w=⟨#[98,114,101,97,107]⟩
         ·subst ew;have h1:=fun(μ9:Mem) (p:MLe μ μ9)=>CE hE hr hw hi (hm.mono p) ⟨#[98,114,101,97,107]⟩ j (by omega);have m1:=(EF hE hr ⟨#[98,114,101,97,107]⟩ hi j (by omega)).mv;generalize sX E r ⟨#[98,114,101,97,107]⟩ s=p9 at a h1 m1;obtain⟨x1,s1⟩:=p9;dsimp only at a h1 m1;have l:=m1.inn hi;have l1:=m1.le;have t1:=m1.lt;subst a;refine aC Tryz.func43 rfl Tryz.ntmps43 (by simp) hμ u ?_;try repeat' (first|refine KO ?_|(refine CF 22 ?_;refine GP1 rfl (bK (by assumption) (hm.mono ML)) ?_;dsimp only[ca,na])|(refine CF 72 ?_;refine GR2 rfl (h1 _ ML) ?_;(rintro v1 μ1 c ⟨u1,rfl,d⟩;have o_u1:=d.one;have H1:MLe μ μ1:=MLe.trans ML c);dsimp only[ca,na])|refine KZ ?_|refine XS0 ?_|refine NB fun b=>?_)
          all_goals(apply jN g rfl;exact(RG 0 rfl rfl rfl rfl rfl);exact aN rfl;exact rfl;exact .refl _;exact fun μ' hle o=>d.mono hle)
         ·have y7__:=iM y7_ ew;by_cases ew:w=⟨#[114,101,116,117,114,110]⟩
          ·subst ew;have h1:=fun(μ9:Mem) (p:MLe μ μ9)=>CE hE hr hw hi (hm.mono p) ⟨#[114,101,116,117,114,110]⟩ j (by omega);have m1:=(EF hE hr ⟨#[114,101,116,117,114,110]⟩ hi j (by omega)).mv;generalize sX E r ⟨#[114,101,116,117,114,110]⟩ s=p9 at a h1 m1;obtain⟨x1,s1⟩:=p9;dsimp only at a h1 m1;have l:=m1.inn hi;have l1:=m1.le;have t1:=m1.lt;subst a;refine aC Tryz.func43 rfl Tryz.ntmps43 (by simp) hμ u ?_;try repeat' (first|refine KO ?_|(refine CF 22 ?_;refine GP1 rfl (bK (by assumption) (hm.mono ML)) ?_;dsimp only[ca,na])|(refine CF 72 ?_;refine GR2 rfl (h1 _ ML) ?_;(rintro v1 μ1 c ⟨u1,rfl,d⟩;have o_u1:=d.one;have H1:MLe μ μ1:=MLe.trans ML c);dsimp only[ca,na])|refine KZ ?_|refine XS0 ?_|refine NB fun b=>?_)
           all_goals(apply jN g rfl;exact(RG 0 rfl rfl rfl rfl rfl);exact aN rfl;exact rfl;exact .refl _;exact fun μ' hle o=>d.mono hle)
          ·have y7___:=iM y7__ ew;have ew:=y7___;subst ew;have h1:=fun(μ9:Mem) (p:MLe μ μ9)=>CE hE hr hw hi (hm.mono p) ⟨#[116,104,114,111,119]⟩ j (by omega);have m1:=(EF hE hr ⟨#[116,104,114,111,119]⟩ hi j (by omega)).mv;generalize sX E r ⟨#[116,104,114,111,119]⟩ s=p9 at a h1 m1;obtain⟨x1,s1⟩:=p9;dsimp only at a h1 m1;have l:=m1.inn hi;have l1:=m1.le;have t1:=m1.lt;subst a;refine aC Tryz.func43 rfl Tryz.ntmps43 (by simp) hμ u ?_;try repeat' (first|refine KO ?_|(refine CF 22 ?_;refine GP1 rfl (bK (by assumption) (hm.mono ML)) ?_;dsimp only[ca,na])|(refine CF 72 ?_;refine GR2 rfl (h1 _ ML) ?_;(rintro v1 μ1 c ⟨u1,rfl,d⟩;have o_u1:=d.one;have H1:MLe μ μ1:=MLe.trans ML c);dsimp only[ca,na])|refine KZ ?_|refine XS0 ?_|refine NB fun b=>?_)
           all_goals(apply jN g rfl;exact(RG 0 rfl rfl rfl rfl rfl);exact aN rfl;exact rfl;exact .refl _;exact fun μ' hle o=>d.mono hle)
       ·rw[if_neg y7]at a;simp only[not_or]at y7;obtain⟨ny70,ny71,ny72,ny73⟩:=id y7;by_cases y8:w=⟨#[115,119,105,116,99,104]⟩
        ·rw[if_pos y8]at a;have ew:=y8;subst ew;have h1:=fun(μ9:Mem) (p:MLe μ μ9)=>YA hE hr hw h8 hi (hm.mono p) j (by omega);have m1:=(TU hE hr hi j (by omega)).mv;generalize wC E r s=p9 at a h1 m1;obtain⟨x1,s1⟩:=p9;dsimp only at a h1 m1;have l:=m1.inn hi;have l1:=m1.le;have t1:=m1.lt;subst a;refine aC Tryz.func43 rfl Tryz.ntmps43 (by simp) hμ u ?_;try repeat' (first|refine KO ?_|(refine CF 22 ?_;refine GP1 rfl (bK (by assumption) (hm.mono ML)) ?_;dsimp only[ca,na])|(refine CF 73 ?_;refine GR1 rfl (h1 _ ML) ?_;(rintro v1 μ1 c ⟨u1,rfl,d⟩;have o_u1:=d.one;have H1:MLe μ μ1:=MLe.trans ML c);dsimp only[ca,na])|refine KZ ?_|refine XS0 ?_|refine NB fun b=>?_)
         all_goals(apply jN g rfl;exact(RG 0 rfl rfl rfl rfl rfl);exact aN rfl;exact rfl;exact .refl _;exact fun μ' hle o=>d.mono hle)
        ·rw[if_neg y8]at a;by_cases y9:w=⟨#[116,114,121]⟩
         ·rw[if_pos y9]at a;have ew:=y9;subst ew;have h1:=fun(μ9:Mem) (p:MLe μ μ9)=>aEu hE hr hw h8 hi (hm.mono p) j (by omega);have m1:=(aC9 hE hr hi j (by omega)).mv;generalize FW E r s=p9 at a h1 m1;obtain⟨x1,s1⟩:=p9;dsimp only at a h1 m1;have l:=m1.inn hi;have l1:=m1.le;have t1:=m1.lt;subst a;refine aC Tryz.func43 rfl Tryz.ntmps43 (by simp) hμ u ?_;try repeat' (first|refine KO ?_|(refine CF 22 ?_;refine GP1 rfl (bK (by assumption) (hm.mono ML)) ?_;dsimp only[ca,na])|(refine CF 74 ?_;refine GR1 rfl (h1 _ ML) ?_;(rintro v1 μ1 c ⟨u1,rfl,d⟩;have o_u1:=d.one;have H1:MLe μ μ1:=MLe.trans ML c);dsimp only[ca,na])|refine KZ ?_|refine XS0 ?_|refine NB fun b=>?_)
          all_goals(apply jN g rfl;exact(RG 0 rfl rfl rfl rfl rfl);exact aN rfl;exact rfl;exact .refl _;exact fun μ' hle o=>d.mono hle)
         ·rw[if_neg y9]at a;subst a;refine aC Tryz.func43 rfl Tryz.ntmps43 (by simp) hμ u ?_;try repeat' (first|refine KO ?_|(refine CF 22 ?_;refine GP1 rfl (bK (by assumption) (hm.mono ML)) ?_;dsimp only[ca,na])|refine KZ ?_|refine NB fun b=>?_)
          all_goals(apply jN g rfl;exact(RG 0 rfl rfl rfl rfl rfl);exact aN rfl;exact rfl;exact .refl _;exact fun μ' hle o=>KR.nil _ _ _)
theorem aBi(many:Bool)(hn:8*(E.ts.length-s.i)+5≤n)(ae:E.ts.length≤30000):zCR E V xb 25 [.pointer (some ⟨xb,0,none⟩),.bool many] s (xE E r many s).2 μ (fun μ' v=>TV μ' (xE E r many s).1 v):=by
 intro w hμ y;have j:=bF y.diff;have hl:=hi.lt;generalize a:xE E r many s=q;unfold xE bd at a;try dsimp only at a
 by_cases c1:isR E s ⟨#[123]⟩=true
 ·rw[if_pos c1]at a;have h1:=fun(μ9:Mem) (p:MLe μ μ9)=>kF hE hr hw h8 hi (hm.mono p) (by omega);have m1:=(iT hE hr hi (by omega)).mv;generalize hH E r s=p9 at a h1 m1;obtain⟨x1,s1⟩:=p9;dsimp only at a h1 m1;have g:=m1.inn hi;have l1:=m1.le;have t1:=m1.lt;obtain⟨x1,y1⟩:=x1;try dsimp only at a h1
  subst a;refine aC Tryz.func25 rfl Tryz.ntmps25 (by simp) hμ y ?_;try repeat' (first|refine PBT ?_|refine KO ?_|(refine CF 22 ?_;refine GP1 rfl (bK (by assumption) (hm.mono ML)) ?_;dsimp only[ca,na])|(refine CF 23 ?_;refine GP2 rfl (dD (by assumption) (hm.mono ML) _) ?_;dsimp only[ca,na])|(refine CF 41 ?_;refine GR1 rfl (h1 _ ML) ?_;(rintro v1 μ1 d ⟨u1,rfl,c⟩;have o_u1:=c.one;have H1:MLe μ μ1:=MLe.trans ML d);dsimp only[ca,na])|refine KZ ?_|refine XS0 ?_|refine XS2 ?_|refine NB fun b=>?_)
  all_goals(apply aX j rfl;exact(RG 2 rfl rfl rfl rfl rfl);exact rfl;exact .refl _;exact fun μ' hle l=>c.mono hle)
 ·rw [if_neg c1]at a;have c1f:=eq_false_of_ne_true c1;by_cases c2:isR E s ⟨#[59]⟩=true
  ·rw[if_pos c2]at a;obtain⟨s1,e1,m1,i1,t1,o1,-⟩:=aT hE (mv0 hi) (cY c2);have g:=m1.inn hi;rw[e1]at a;subst a;refine aC Tryz.func25 rfl Tryz.ntmps25 (by simp) hμ y ?_;try repeat' (first|refine PBT ?_|refine PBF ?_|refine KO ?_|(refine CF 22 ?_;refine GP1 rfl (bK (by assumption) (hm.mono ML)) ?_;dsimp only[ca,na])|(refine CF 23 ?_;refine GP2 rfl (dD (by assumption) (hm.mono ML) _) ?_;dsimp only[ca,na])|(refine CF 42 ?_;refine GP1 rfl (bN (by assumption) (by assumption) (hm.mono ML)) ?_;dsimp only[ca,na])|refine KZ ?_|refine NB fun b=>?_)
   all_goals(apply aX j rfl;exact(RG 1 rfl rfl rfl rfl rfl);exact rfl;exact .refl _;exact fun μ' hle l=>KR.nil _ _ _)
  ·rw[if_neg c2]at a;have c2f:=eq_false_of_ne_true c2;by_cases c3:(aJ E s).k=2∨cP E s ⟨#[108,101,116]⟩=true
   ·rw[if_pos c3]at a;have h1:=fun(μ9:Mem) (p:MLe μ μ9)=>UM hE hr hw h8 hi (hm.mono p) (aJ E s).s many (c3.elim (fun h e=>by omega) eC) (by omega) ae;have m1:=(KF hE hr (aJ E s).s many hi (c3.elim (fun h e=>by omega) eC) (by omega)).mv;generalize oW E r (aJ E s).s many s=p9 at a h1 m1;obtain⟨x1,s1⟩:=p9;dsimp only at a h1 m1;have g:=m1.inn hi;have l1:=m1.le;have t1:=m1.lt;obtain⟨x1,y1⟩:=x1;try dsimp only at a h1
    cases y1
    ·rw[if_neg (by decide)]at a;replace a:xM E r s1=q:=a;unfold xM bd at a;dsimp only at a;have h2:=fun(μ9:Mem) (p:MLe μ μ9)=>lO hE hr hw g (hm.mono p) true (by omega);have m2:=(iS hE hr true g (by omega)).mv;generalize gN E r true s1=p9 at a h2 m2;obtain⟨x2,s2⟩:=p9;dsimp only at a h2 m2;have o:=m2.inn g;have l2:=m2.le;have t2:=m2.lt;obtain⟨s3,e3,m3,l3,t3,o3⟩:=kW hE (mv0 o);have ad:=m3.inn o;rw[e3]at a;subst a;refine aC Tryz.func25 rfl Tryz.ntmps25 (by simp) hμ y ?_;try repeat' (first|refine PBF ?_|refine KO ?_|(refine CF 22 ?_;refine GP1 rfl (bK (by assumption) (hm.mono ML)) ?_;dsimp only[ca,na])|(refine CF 23 ?_;refine GP2 rfl (dD (by assumption) (hm.mono ML) _) ?_;dsimp only[ca,na])|(refine CF 24 ?_;refine GP2 rfl (cS (by assumption) (hm.mono ML) _) ?_;dsimp only[ca,na])|(refine CF 45 ?_;refine GU1 rfl (oR (by assumption) (by assumption) (hm.mono ML)) ?_;intro v9;dsimp only[ca,na])|(refine CF 44 ?_;refine GP2 rfl (oF (by assumption) (hm.mono ML)) ?_;dsimp only[ca,na])|refine K2 40 (fun w μc hw x=>gI _ _ w μc hw) ?_|(refine CF 43 ?_;refine GR3 rfl (h1 _ ML) ?_;(rintro v1 μ1 d ⟨u1,rfl,c⟩;have o_u1:=c.one;have H1:MLe μ μ1:=MLe.trans ML d);dsimp only[ca,na])|(refine CF 16 ?_;refine GR2 rfl (h2 _ ML) ?_;(rintro v2 μ2 u ⟨u2,rfl,ab⟩;have o_u2:=ab.one;have H2:MLe μ μ2:=MLe.trans ML u;have c:=c.mono u);dsimp only[ca,na])|refine KZ ?_|refine XS0 ?_|refine NB fun b=>?_|(refine KB ?_ ?_<;>intro hp))
     all_goals try(exfalso;(simp_all;done))
     all_goals(apply aX j rfl;exact(RG 4 rfl rfl rfl rfl rfl);exact rfl;exact .refl _;exact fun μ' hle l=>KR.eT [(x2,u2)] (l _ (by exact(aA))) rfl (by repeat first|exact bH|refine bA rfl ?_) (Kids.cons (ab.mono hle) (Kids.nil _)))
    ·rw[if_pos rfl]at a;subst a;refine aC Tryz.func25 rfl Tryz.ntmps25 (by simp) hμ y ?_;try repeat' (first|refine PBF ?_|refine KO ?_|(refine CF 22 ?_;refine GP1 rfl (bK (by assumption) (hm.mono ML)) ?_;dsimp only[ca,na])|(refine CF 23 ?_;refine GP2 rfl (dD (by assumption) (hm.mono ML) _) ?_;dsimp only[ca,na])|(refine CF 24 ?_;refine GP2 rfl (cS (by assumption) (hm.mono ML) _) ?_;dsimp only[ca,na])|(refine CF 44 ?_;refine GP2 rfl (oF (by assumption) (hm.mono ML)) ?_;dsimp only[ca,na])|refine K2 40 (fun w μc hw x=>gI _ _ w μc hw) ?_|(refine CF 43 ?_;refine GR3 rfl (h1 _ ML) ?_;(rintro v1 μ1 d ⟨u1,rfl,c⟩;have o_u1:=c.one;have H1:MLe μ μ1:=MLe.trans ML d);dsimp only[ca,na])|refine KZ ?_|refine XS0 ?_|refine XS2 ?_|refine NB fun b=>?_|(refine KB ?_ ?_<;>intro hp))
     all_goals try(exfalso;(simp_all;done))
     all_goals(apply aX j rfl;exact(RG 2 rfl rfl rfl rfl rfl);exact rfl;exact .refl _;exact fun μ' hle l=>c.mono hle)
   ·rw[if_neg c3]at a;obtain⟨c3a,c3b⟩:=not_or.1 c3;have c3c:cP E s ⟨#[108,101,116]⟩=false:=by simpa using c3b
    by_cases c4:(aJ E s).k=1∧sgn (ahR E 1 s) ⟨#[58]⟩=true
    ·rw[if_pos c4]at a;obtain⟨c4_0,c4_1⟩:=id c4;obtain⟨s1,e1,m1,i1,t1,o1,-⟩:=aT hE (mv0 hi) (fun e=>by have:=c4.1;omega);have g:=m1.inn hi;rw[e1]at a;obtain⟨s2,e2,m2,l2,t2,o2⟩:=DZ (mv0 g);have o:=m2.inn g;rw[e2]at a;have h3:=fun(μ9:Mem) (p:MLe μ μ9)=>hw.stm false _ μ9 o (by omega) (hm.mono p);have m3:=(hr.stm false _ o (by omega)).mv;generalize r.stm false s2=p9 at a h3 m3;obtain⟨x3,s3⟩:=p9;dsimp only at a h3 m3;have ad:=m3.inn o;have l3:=m3.le;have t3:=m3.lt;subst a;refine aC Tryz.func25 rfl Tryz.ntmps25 (by simp) hμ y ?_;try repeat' (first|refine PBT ?_|refine PBF ?_|refine KO ?_|(refine CF 22 ?_;refine GP1 rfl (bK (by assumption) (hm.mono ML)) ?_;dsimp only[ca,na])|(refine CF 23 ?_;refine GP2 rfl (dD (by assumption) (hm.mono ML) _) ?_;dsimp only[ca,na])|(refine CF 24 ?_;refine GP2 rfl (cS (by assumption) (hm.mono ML) _) ?_;dsimp only[ca,na])|(refine CF 42 ?_;refine GP1 rfl (bN (by assumption) (by assumption) (hm.mono ML)) ?_;dsimp only[ca,na])|(refine CF 44 ?_;refine GP2 rfl (oF (by assumption) (hm.mono ML)) ?_;dsimp only[ca,na])|refine K2 40 (fun w μc hw x=>gI _ _ w μc hw) ?_|refine KZ ?_|refine NB fun b=>?_)
     refine aW 8 _ (by kernel_rfl) rfl (aK (aG (aG aU))) ?_;all_goals(refine DD 0 ?_;refine DD 1 ?_;refine DD 2 ?_;refine DD 3 ?_)
     all_goals(refine D3 4 ?_;refine D5 ?_;(refine CF 25 ?_;refine GR2 rfl (h3 _ ML) ?_;(rintro v3 μ3 z ⟨u3,rfl,aa⟩;have o_u3:=aa.one;have H3:MLe μ μ3:=MLe.trans ML z);dsimp only[ca,na]);refine D9 ?_)
     all_goals(refine D3 5 ?_;refine D5 ?_;refine NB fun b=>?_;refine D9 ?_;refine DD 6 ?_;refine D3 7 ?_;refine D5 ?_;refine Y0 ?_;refine D9 ?_;refine D8 ?_)
     all_goals try repeat' (refine KO ?_)
     all_goals(apply aX j rfl;exact(RG 2 rfl rfl rfl rfl rfl);exact rfl;exact .refl _;exact fun μ' hle l=>KR.eT [(x3,u3)] (l _ (by exact(aA))) rfl (by repeat first|exact bH|refine bA rfl ?_) (Kids.cons (aa.mono hle) (Kids.nil _)))
    ·rw[if_neg c4]at a;replace a:xM E r s=q:=a;unfold xM bd at a;dsimp only at a;have h1:=fun(μ9:Mem) (p:MLe μ μ9)=>lO hE hr hw hi (hm.mono p) true (by omega);have m1:=(iS hE hr true hi (by omega)).mv;generalize gN E r true s=p9 at a h1 m1;obtain⟨x1,s1⟩:=p9;dsimp only at a h1 m1;have g:=m1.inn hi;have l1:=m1.le;have t1:=m1.lt;obtain⟨s2,e2,m2,l2,t2,o2⟩:=kW hE (mv0 g);have o:=m2.inn g;rw[e2]at a;subst a;refine aC Tryz.func25 rfl Tryz.ntmps25 (by simp) hμ y ?_;try repeat' (first|refine PBF ?_|refine KO ?_|(refine CF 22 ?_;refine GP1 rfl (bK (by assumption) (hm.mono ML)) ?_;dsimp only[ca,na])|(refine CF 23 ?_;refine GP2 rfl (dD (by assumption) (hm.mono ML) _) ?_;dsimp only[ca,na])|(refine CF 24 ?_;refine GP2 rfl (cS (by assumption) (hm.mono ML) _) ?_;dsimp only[ca,na])|(refine CF 45 ?_;refine GU1 rfl (oR (by assumption) (by assumption) (hm.mono ML)) ?_;intro v9;dsimp only[ca,na])|(refine CF 44 ?_;refine GP2 rfl (oF (by assumption) (hm.mono ML)) ?_;dsimp only[ca,na])|refine K2 40 (fun w μc hw x=>gI _ _ w μc hw) ?_|(refine CF 16 ?_;refine GR2 rfl (h1 _ ML) ?_;(rintro v1 μ1 d ⟨u1,rfl,c⟩;have o_u1:=c.one;have H1:MLe μ μ1:=MLe.trans ML d);dsimp only[ca,na])|refine KZ ?_|refine XS0 ?_|refine NB fun b=>?_|(refine KB ?_ ?_<;>intro hp))
     all_goals try(exfalso;(simp_all;done))
     all_goals(apply aX j rfl;exact(RG 3 rfl rfl rfl rfl rfl);exact rfl;exact .refl _;exact fun μ' hle l=>KR.eT [(x1,u1)] (l _ (by exact(aA))) rfl (by repeat first|exact bH|refine bA rfl ?_) (Kids.cons (c.mono hle) (Kids.nil _)))
end
end
section
open Go.RowKit Go.Vcg
section
variable(E:TkE)(r:RdR)(s:RdS)
theorem aE3(d:Bool):(kC E r d s).1.op=4:=by
 unfold kC;dsimp only;split<;>rfl
theorem UZ:(pB E r s).1.op=9:=by
 unfold pB bd;dsimp only;split<;>rfl
theorem aBu:(xK E r s).1.op≠8:=by
 unfold xK bd;dsimp only;split
 ·show(if mZ E _ ⟨#[111,102]⟩=true then(12:Int)else 11)≠8
  split<;>decide
 ·show(10:Int)≠8
  decide
theorem aBv(w:ByteArray):(sX E r w s).1.op≠8:=by
 unfold sX bd;dsimp only;split
 ·have h:(if w=⟨#[99,111,110,116,105,110,117,101]⟩then(16:Int)else 15)≠8:=by split<;>decide
  split
  ·exact h
  ·exact h
 ·split
  ·split
   ·show(17:Int)≠8
    decide
   ·show(17:Int)≠8
    decide
  ·show(18:Int)≠8
   decide
theorem aE2:(FW E r s).1.op=19:=by
 unfold FW bd;dsimp only
 (repeat' split)<;>rfl
theorem UY(w:ByteArray)(many:Bool):(oW E r w many s).1.1.op≠8:=by
 have a:T.zero.op≠8:=by show(0:Int)≠8;decide
 unfold oW bd;dsimp only;split
 ·split
  ·exact a
  ·show(2:Int)≠8
   decide
 split
 ·split
  ·dsimp only;rw[aE3];decide
  ·exact a
 split
 ·dsimp only;rw[UZ];decide
 split
 ·show(13:Int)≠8
  decide
 split
 ·show(14:Int)≠8
  decide
 split
 ·exact aBu E r s
 split
 ·exact aBv E r s w
 split
 ·show(21:Int)≠8
  decide
 split
 ·dsimp only;rw[aE2];decide
 ·exact a
theorem aBt(many:Bool)(h:(xE E r many s).1.op=8):(xE E r many s).1.kids≠[]:=by
 have a:∀s,(xM E r s).1.kids≠[]:=fun s=>by unfold xM bd;dsimp only;exact List.cons_ne_nil _ _
 revert h;unfold xE bd;dsimp only;split
 ·intro h;exact absurd (show(6:Int)=8 from h) (by decide)
 split
 ·intro h;exact absurd (show(7:Int)=8 from h) (by decide)
 split
 ·split
  ·intro h;exact absurd h (UY E r s _ many)
  ·intro _;exact a _
 split
 ·intro h;exact absurd (show(23:Int)=8 from h) (by decide)
 ·intro _;exact a _
end
theorem UI(E:TkE):∀(n:Nat) (b:Bool) (s:RdS),((sB E n).stm b s).1.op=8→((sB E n).stm b s).1.kids≠[]
 |0,_,_=>fun h=>absurd (show(0:Int)=8 from h) (by decide)
 |n+1,b,s=>aBt E (sB E n) s b
theorem xH{E:TkE}{src:ByteArray}{V:RPl}{xb:Nat}(hE:TOk E src)(c:E.ts.length≤30000):∀n,rO E src V xb n (sB E n)
 |0=>⟨fun _ _ s _ _ _ h=>by omega,fun _ _ _ _ _ _ s _ _ _ h=>by omega,fun s _ _ h=>by omega,fun s _ _ h=>by omega,fun _ s _ _ h=>by omega,fun s _ _ h=>by omega⟩
 | n+1=>⟨fun b a s μ hi d h hm=>UT hE (qV hE n) (xH hE c n) (UI E n) hi hm b a d (by omega) c,
   fun nb lb b k x y s μ hi hb h hk hm=>XY hE (qV hE n) (xH hE c n) (UI E n) hi hm nb lb b k x y (by omega) hk,
   fun s μ hi h hm=>XS hE (qV hE n) (xH hE c n) (UI E n) hi hm (by omega),
   fun s μ hi h hk hm=>XV hE (qV hE n) (xH hE c n) (UI E n) hi hm hk (by omega),
   fun b s μ hi h hm=>aBi hE (qV hE n) (xH hE c n) (UI E n) hi hm b (by omega) c,
   fun s μ hi h hm=>UN hE (qV hE n) (xH hE c n) hi hm (by omega)⟩
end
end Go.Proofs.YtknieidhopbngaaGreat
namespace Go.Vcg
open Go.RowKit
section
variable{P:Program}{μ:Mem}{l:bG}{L Lr:List Bk}{w:World}
theorem ZI{X:Ctx}{Q:Exit→Act→World→Prop}{k:Code}{v:Value}{e s n n' :Nat}{xs xs' :List Value}(i:Nat)(hi:jO L i=some (.inr ⟨v,e,s,n,xs⟩))(hn:n=n')(b:xs=xs')(h:GC P X k Q μ l (nQ L i (.inr ⟨v,e,s,n',xs'⟩))):GC P X k Q μ l L:=fun a w hs=>h a w (hs.aDg hi hn b)
theorem aEo{ι:Type}{fn:Func}{n:Nat}{μ0:Mem}{M:List Nat}{e:Exit}{R:Mem→ι→Prop}{x:ι→Bk}{y:Bk}(j:ι)(he:e=.ret∨e=.normal)(p:∀D,M.count D≤1)(hr:fn.results= #[])(hL:splitB (L.length-1) L=some (Lr,[y]))(o:jC (x j) y)
 (hp:∀μ',MLe μ μ' →(∀z∈Lr,Bk.sh z μ')→R μ' j):
 GQ ⟨w,μ0,M,n⟩ (bodyPost P fn (fun e w' =>∃(v:Value) (μ' :Mem) (i:ι),e=.returned v∧iO M w w' μ0 [x i] μ' ∧R μ' i)) e μ l L:=fun a w' hs=>by
 have h:=iA hL;subst h;obtain⟨μ1,c,d,g⟩:=St.qT hs;obtain⟨μ2,hb,b⟩:=St.rH (L' :=[y]) (Lr:=[]) g;have:∃v,(results fn a.tmps).run P w' =.ok v w' :=by simp[results,hr]
 obtain⟨v,hv⟩:=this;rcases he with rfl|rfl
 all_goals exact⟨hs.defers.none p,v,hv,v,μ2,j,rfl,hb.le1 o,hp μ2 (c.trans b) fun z k=>Bk.wM (d z k) b⟩
end
end Go.Vcg
namespace Go.Proofs.YtknieidhopbngaaGreat
open Go.RowKit Go.Vcg
def pcl(n i:Nat)(cl:List Int):List Value:=(cl.take i).map (fun x=>Value.int .i64 x)++List.replicate (n-i) (Value.int .i64 0)
def opV(op:List Nat):List Value:=op.map fun(j:Nat)=>Value.int .i64 (j:Int)
theorem SI{n i:Nat}{cl:List Int}(hc:cl.length=n)(hi:i≤n):(pcl n i cl).length=n:=by
 unfold pcl;rw[aB,fA,bZ,List.length_replicate];omega
theorem YF{n i:Nat}{cl:List Int}(hc:cl.length=n)(hi:i<n)(h:cl[i]? =some (-1)):(pcl n i cl).take i++[Value.int .i64 (-1)]++(pcl n i cl).drop (i+1)=pcl n (i+1) cl:=by
 have h1:((cl.take i).map (fun x=>Value.int .i64 x)).length=i:=by rw[fA,bZ];omega
 have h2:cl.take (i+1)=cl.take i++[-1]:=by rw[kZ,h];rfl
 unfold pcl;rw[List.take_left' h1,List.drop_append,h1,List.drop_eq_nil_of_le (by omega),h2,aE,show i+1-i=1 by omega,List.drop_replicate,jK,show n-i-1=n- (i+1)by omega];rfl
theorem aBr{n i j:Nat}{cl:List Int}(hc:cl.length=n)(hi:i<n)(a:j≤i):(pcl n (i+1) cl).take j++[Value.int .i64 (i:Int)]++(pcl n (i+1) cl).drop (j+1)=pcl n (i+1) (cl.set j (i:Int)):=by
 have h1:((cl.take (i+1)).map (fun x=>Value.int .i64 x)).length=i+1:=by rw[fA,bZ];omega
 have h2:(cl.set j (i:Int)).take (i+1)=(cl.take (i+1)).take j++[(i:Int)]++(cl.take (i+1)).drop (j+1):=by rw[List.take_set,List.set_eq_take_append_cons_drop,if_pos (by rw[bZ];omega),bR];rfl
 unfold pcl;rw[List.take_append_of_le_length (by omega),List.drop_append_of_le_length (by omega),h2];simp only[aE,List.map_take,List.map_drop,bR,bE,cN]
theorem MD:∀Q:List Int,Q.map (fun x=>Value.int .i64 x)=Q.flatMap PY
 |[]=>rfl
 |a::r=>by rw[bE,dA,MD r];rfl
theorem DU(q:List Nat)(j:Nat):opV (q++[j])=opV q++[Value.int .i64 (j:Int)]:=by unfold opV;rw[aE];rfl
theorem JF(q:List Nat):(opV q).length=q.length:=fA ..
theorem SP{t:Tok}{r:List Tok}{i:Nat}{cl:List Int}{op:List Nat}(h:qG t=false∨(if nV t=true then op++[i]else op)=[]):nW (t::r) i cl op=nW r (i+1) cl (if nV t=true then op++[i]else op):=by
 rw[nW];rcases h with h|h
 ·rw[h];rfl
 ·rw[h];cases qG t<;>rfl
theorem aB0{t:Tok}{r:List Tok}{i j:Nat}{cl:List Int}{op q:List Nat}(h:qG t=true)(a:(if nV t=true then op++[i]else op)=q++[j]):nW (t::r) i cl op=nW r (i+1) (cl.set j (i:Int)) q:=by
 rw[nW];simp only[a,h,if_true,List.getLast?_concat,List.dropLast_concat]
theorem UJ{μ:Mem}{A:Option Addr}{n:Nat}{ts:List Tok}(h:Sl eB 7 μ A n ts){k:Nat}{t:Tok}(hk:ts[k]? =some t):∃ad,A=some ad∧iK μ (ad.add (k*7)) (eB t):=by
 have a:k<n:=by rw[←h.1];exact(List.getElem?_eq_some_iff.1 hk).1
 obtain⟨ad,x,c,b,hm⟩:=h.get a;rw[b]at hk;cases hk;exact⟨ad,c,hm⟩
abbrev RB0(n:Nat)(A:Option Addr)(c xb:Nat):Bk:=.inl ⟨xb,52,11,[(0,.slice A n c),(1,.int .i64 0),(2,.bool false),(3,.int .i64 0),(4,.int .i64 0),(5,.slice none 0 0),(6,.int .i64 0),(7,.int .i64 0),(8,.int .i64 (-1)),(9,.int .i64 0),(10,.int .i64 0)]⟩
attribute [local irreducible] nW G GC GQ GA dV Calls IntKind.wrap Int.decLt Int.decLe
theorem XU{ts:List Tok}{A:Option Addr}{c xb:Nat}{μ:Mem}(hS:Sl eB 7 μ A ts.length ts)(ay:0<ts.length)(aw:ts.length≤30000)(w:World)(hμ:MOk μ w)(hO:Go.Vcg.Own μ [RB0 ts.length A c xb] w):
 Calls Tryz.prog 21 #[.pointer (some ⟨xb,0,none⟩)] w fun e w' =>∃(v:Value) (μ' :Mem) (b:Nat),e=.returned v∧iO (fM [RB0 ts.length A c xb]) w w' μ [RB (iH ts) ⟨A,c,some ⟨b,0,none⟩,ts.length⟩ xb rs0] μ' ∧Sl PY 1 μ' (some ⟨b,0,none⟩) ts.length (iH ts).cl∧∀x∈(iH ts).cl,-1≤x∧x<ts.length:=by
 have ag:=bF hO.diff;generalize hQ:nW ts 0 (ts.map fun _=> -1) []=Q;have ar:(iH ts).cl=Q:=hQ;rw[ar];refine aC Tryz.func21 rfl Tryz.ntmps21 (by simp) hμ hO ?_;try repeat' (first|refine KZ ?_|(refine aCi (z:=.int .i64 0) (bytes:=8) ts.length (List.replicate ts.length (.int .i64 0)) (by exact rfl) (by exact rfl) (by exact rfl) (by exact rfl) rfl rfl (by exact rfl) (by exact rfl) (by exact rfl) (by omega) (by omega) rfl (fun b=>?_)))
 refine dH (ι:=Nat×List Int×List Nat×Value) (fun i=>i.1≤ts.length∧i.2.1.length=ts.length∧(∀k,i.1≤k→k<ts.length→i.2.1[k]? =some (-1))∧(∀j∈i.2.2.1,j<i.1)∧i.2.2.1.length≤i.1∧(∀x∈i.2.1,-1≤x∧x<ts.length)∧Q=nW (ts.drop i.1) i.1 i.2.1 i.2.2.1)
  (fun i=>ts.length-i.1) (fun _=>μ) (fun i=>[(0,.pointer (some ⟨xb,0,none⟩)),(2,i.2.2.2),(19,.slice A ts.length c),(20,.int .i64 ts.length),(21,.int .i64 i.1)])
  (fun i=>[.inr ⟨i.2.2.2,3,1,i.2.2.1.length,opV i.2.2.1⟩,.inr ⟨.slice (some ⟨b,0,none⟩) ts.length ts.length,3,1,ts.length,pcl ts.length i.1 i.2.1⟩,.inl ⟨xb,52,11,[(0,.slice A ts.length c),(1,.int .i64 0),(2,.bool false),(3,.int .i64 0),(4,.int .i64 0),(5,.slice (some ⟨b,0,none⟩) ts.length ts.length),(6,.int .i64 0),(7,.int .i64 0),(8,.int .i64 (-1)),(9,.int .i64 0),(10,.int .i64 0)]⟩])
  (0,ts.map (fun _=> -1),[],.slice none 0 0) ⟨cU _,fA ..,fun k _ hk=>by dsimp only;rw[eL,aI hk];rfl,(fun(j:Nat) (hj:j∈([]:List Nat))=>nomatch hj),aP _,(fun(x:Int) (hx:x∈ts.map fun _=>(-1:Int))=>by obtain⟨t,-,rfl⟩:=List.mem_map.1 hx;omega),hQ.symm⟩ (fun a w hs=>(hs.kU 3 1).sel PU (jT (.refl _) (jT (.refl _) (jT (.cells PU) (.nil _))))) ?_
 rintro⟨i,cl,op,ov⟩ ⟨hi,d,r,ab,an,hb,hJ⟩;dsimp only at hi d r ab an hb hJ⊢;by_cases p:i<ts.length
 ·obtain⟨t,ht⟩:∃t,ts[i]? =some t:=⟨ts[i],aI p⟩;have aq:ts.drop i=t::ts.drop (i+1):=by obtain⟨_,rfl⟩:=List.getElem?_eq_some_iff.1 ht;exact iJ p
  rw[aq]at hJ;obtain⟨ad,rfl,ao⟩:=UJ hS ht;have ax:=SI (n:=ts.length) d hi;have ak:=YF d p (r i (aP _) p);try repeat' (first|((with_reducible show GC _ _ (Code.seq (Code.region 6 _ _) _) _ _ _ _);(apply dE))|refine KO ?_|(((with_reducible apply pI 2);(iterate 7 exact rfl);(simp;omega)))|(refine KV (b:=by first|exact U1 i|exact U4 ao) (c:=?_))|refine KZ ?_|refine NB fun b=>?_)
  all_goals try(exfalso;omega)
  rename_i bg;refine ZI (n' :=ts.length) (xs' :=pcl ts.length (i+1) cl) 2 rfl rfl ?_ ?_
  ·rw[←ak,jF];rfl
  dsimp only[nQ];refine fK (ι:=Bool) (fun o=>o=nV t) (fun _=>μ) (fun o=>[(0,.pointer (some ⟨xb,0,none⟩)),(2,ov),(3,.int .i64 i),(4,.pointer (some ⟨b,0,none⟩)),(5,.bool o),(19,.slice (some ad) ts.length c),(20,.int .i64 ts.length),(21,.int .i64 i)]) (fun _=>[.inl ⟨b,54,7,idx 0 (eB t)⟩,.inr ⟨ov,3,1,op.length,opV op⟩,.inr ⟨.slice (some ⟨bg,0,none⟩) ts.length ts.length,3,1,ts.length,pcl ts.length (i+1) cl⟩,.inl ⟨xb,52,11,[(0,.slice (some ad) ts.length c),(1,.int .i64 0),(2,.bool false),(3,.int .i64 0),(4,.int .i64 0),(5,.slice (some ⟨bg,0,none⟩) ts.length ts.length),(6,.int .i64 0),(7,.int .i64 0),(8,.int .i64 (-1)),(9,.int .i64 0),(10,.int .i64 0)]⟩]) ?_ ?_
  ·try repeat' (first|refine KZ ?_|(refine KB ?_ ?_<;>intro hp))
   all_goals(refine J1 _ ?_;(simp_all[nV,qG,sgn];done))
  rintro _ rfl;try dsimp only
  refine fK (ι:=Bool) (fun o=>o=qG t) (fun _=>μ) (fun o=>[(0,.pointer (some ⟨xb,0,none⟩)),(2,ov),(3,.int .i64 i),(4,.pointer (some ⟨b,0,none⟩)),(5,.bool (nV t)),(6,.bool o),(19,.slice (some ad) ts.length c),(20,.int .i64 ts.length),(21,.int .i64 i)]) (fun _=>[.inl ⟨b,54,7,idx 0 (eB t)⟩,.inr ⟨ov,3,1,op.length,opV op⟩,.inr ⟨.slice (some ⟨bg,0,none⟩) ts.length ts.length,3,1,ts.length,pcl ts.length (i+1) cl⟩,.inl ⟨xb,52,11,[(0,.slice (some ad) ts.length c),(1,.int .i64 0),(2,.bool false),(3,.int .i64 0),(4,.int .i64 0),(5,.slice (some ⟨bg,0,none⟩) ts.length ts.length),(6,.int .i64 0),(7,.int .i64 0),(8,.int .i64 (-1)),(9,.int .i64 0),(10,.int .i64 0)]⟩]) ?_ ?_
  ·try repeat' (first|refine KZ ?_|(refine KB ?_ ?_<;>intro hp))
   all_goals(refine J1 _ ?_;(simp_all[nV,qG,sgn];done))
  rintro _ rfl;try dsimp only
  refine fK (ι:=Value×Nat×List Value) (fun q=>q.2.1=(if nV t=true then op++[i]else op).length∧q.2.2=opV (if nV t=true then op++[i]else op)) (fun _=>μ) (fun q=>[(0,.pointer (some ⟨xb,0,none⟩)),(2,q.1),(3,.int .i64 i),(4,.pointer (some ⟨b,0,none⟩)),(6,.bool (qG t)),(19,.slice (some ad) ts.length c),(20,.int .i64 ts.length),(21,.int .i64 i)]) (fun q=>[.inl ⟨b,54,7,idx 0 (eB t)⟩,.inr ⟨q.1,3,1,q.2.1,q.2.2⟩,.inr ⟨.slice (some ⟨bg,0,none⟩) ts.length ts.length,3,1,ts.length,pcl ts.length (i+1) cl⟩,.inl ⟨xb,52,11,[(0,.slice (some ad) ts.length c),(1,.int .i64 0),(2,.bool false),(3,.int .i64 0),(4,.int .i64 0),(5,.slice (some ⟨bg,0,none⟩) ts.length ts.length),(6,.int .i64 0),(7,.int .i64 0),(8,.int .i64 (-1)),(9,.int .i64 0),(10,.int .i64 0)]⟩]) ?_ ?_
  ·cases ho:nV t with
   | true=>
     try repeat' (first|refine KZ ?_|(refine XAP fun v=>?_;refine bB 2 rfl ?_;rintro A2 c2 rfl av)|refine NB fun b=>?_)
     refine J1 (.slice A2 (op.length+1) c2,op.length+1,opV op++[.int .i64 (i:Int)]) ⟨by rw[if_pos rfl,aB];rfl,by rw[if_pos rfl,DU]⟩
   | false=>
     try repeat' (refine KZ ?_)
     refine J1 (ov,op.length,opV op) ⟨by rw[if_neg (by decide)],by rw[if_neg (by decide)]⟩
  have l:∀j∈(if nV t=true then op++[i]else op),j<i+1:=fun j hj=>by
   split at hj
   ·rcases bU.1 hj with h|h
    ·have:=ab j h;omega
    ·rw[bM.1 h];omega
   ·have:=ab j hj;omega
  have u:(if nV t=true then op++[i]else op).length≤i+1:=by
   split
   ·rw[aB,List.length_singleton];omega
   ·omega
  generalize y:(if nV t=true then op++[i]else op)=op1 at l u;rintro⟨ov1,_,_⟩ ⟨rfl,rfl⟩;dsimp only;have ae:∀(cl' :List Int) (j:Nat),cl' =cl∨cl' =cl.set j (i:Int)→j≤i→cl'.length=ts.length∧(∀k,i+1≤k→k<ts.length→cl'[k]? =some (-1))∧∀x∈cl',-1≤x∧x<ts.length:=by
   rintro cl' j (rfl|rfl) hj
   ·exact⟨d,fun k h1 h2=>r k (by omega) h2,hb⟩
   ·refine⟨by rw[List.length_set];exact d,fun k h1 h2=>by rw[List.getElem?_set_ne (by omega)];exact r k (by omega) h2,fun x hx=>?_⟩;rcases List.mem_or_eq_of_mem_set hx with h|h
    ·exact hb x h
    ·omega
  cases hc:qG t with
  | false=>
    rw[SP (.inl hc),y]at hJ;try repeat' (refine KZ ?_)
    all_goals refine J2 (i+1,cl,op1,ov1) ⟨by dsimp only;omega,d,(ae cl 0 (.inl rfl) (cU _)).2.1,l,u,hb,hJ⟩ (by dsimp only;omega)
  | true=>
    rcases(show op1=[]∨∃q j,op1=q++[j]by rcases List.eq_nil_or_concat op1 with h|⟨q,j,h⟩;exact .inl h;exact .inr ⟨q,j,by rw[h,List.concat_eq_append]⟩)with rfl|⟨q,j,rfl⟩
    ·rw[SP (.inr y),y]at hJ;try repeat' (first|refine KO ?_|(refine KV (b:=by((with_reducible apply qL 1);(iterate 3 exact rfl))) (c:=?_))|refine KZ ?_|(refine KB ?_ ?_<;>intro hp))
     all_goals try(exfalso;simp_all;done)
     all_goals refine J2 (i+1,cl,[],ov1) ⟨by dsimp only;omega,d,(ae cl 0 (.inl rfl) (cU _)).2.1,l,u,hb,hJ⟩ (by dsimp only;omega)
    ·have hj:=l j (by simp);rw[aB0 hc y]at hJ;obtain⟨h5,h6,h7⟩:=ae (cl.set j (i:Int)) j (.inr rfl) (by omega);have aj:=aBr (n:=ts.length) d p (show j≤i by omega);have au:=SI (n:=ts.length) (i:=i+1) d (by omega);have af:(q++[j]).length=q.length+1:=by rw[aB];rfl
     rw[af];rw[af]at u;have ai:(opV (q++[j]))[q.length]? =some (.int .i64 (j:Int)):=by rw[DU,bQ (by rw[JF];exact aP _),JF,iP];rfl
     refine iZ 1 rfl ?_;rintro A3 c3 rfl aa;obtain⟨g3,rfl⟩:∃g,A3=some ⟨g,0,none⟩:=by
      rcases aa.form with⟨-,h,-⟩|h
      ·omega
      ·exact h
     try repeat' (refine KO ?_)
     all_goals try(exfalso;omega)
     refine aW 13 _ (by kernel_rfl) rfl (aK (aK (aG (aK aU)))) ?_;all_goals(refine D1 0 ?_;refine D1 1 ?_;refine D1 2 ?_;refine DD 3 ?_;refine D1 4 ?_;refine D1 5 ?_;refine D1 6 ?_;refine DD 7 ?_;refine D2 8 rfl (by exact U1 q.length) ?_;refine D2 9 rfl (by(((with_reducible apply kL 1);(iterate 3 exact rfl);(rw[jF];exact ai)))) ?_;refine D1 10 ?_;refine D2 11 rfl (by exact U1 j) ?_)
     all_goals(refine D3 12 ?_;refine D5 ?_;((((with_reducible apply pI 2);(iterate 7 exact rfl);(simp;omega))));refine D9 ?_)
     all_goals refine D8 ?_
     all_goals try repeat' (first|refine KO ?_|(refine KV (b:=by(((with_reducible apply CY q.length);(iterate 4 exact rfl);omega;(have:=aa.cap;omega)))) (c:=?_))|refine KZ ?_)
     all_goals refine EM (i:=1) (opV q) q.length rfl (by omega) (by rw[DU,jF,List.take_left' (JF q)]) ?_
     all_goals refine ZE (n' :=ts.length) (xs' :=pcl ts.length (i+1) (cl.set j (i:Int))) 2 rfl rfl ?_ ?_
     ·rw[←aj,jF];rfl
     all_goals refine J2 (i+1,cl.set j (i:Int),q,.slice (some ⟨g3,0,none⟩) q.length c3) ⟨by dsimp only;omega,h5,h6,fun k hk=>l k (cV _ hk),by dsimp only;omega,h7,hJ⟩ (by dsimp only;omega)
 ·have ap:i=ts.length:=by omega
  subst ap;rw[List.drop_length]at hJ;have hJ:Q=cl:=by rw[hJ];unfold nW;rfl
  subst hJ;have al:pcl ts.length ts.length Q=Q.flatMap PY:=by unfold pcl;rw[iP,←d,lM,List.replicate_zero,bP];exact MD Q
  try repeat' (refine KZ ?_)
  all_goals try(exfalso;omega)
  all_goals exact aEo b (.inr rfl) ag rfl rfl (.refl _) fun μ' hle ah=>⟨bD (enc:=PY) (xs:=Q) (ah _ (aS aA)) d (fun _ _=>rfl) al,hb⟩
end Go.Proofs.YtknieidhopbngaaGreat
namespace Go.Vcg
section
open Go.RowKit
def MF:Obj→Bool
 |.cells _ _ _=>true
 |.map _ _=>true
 |.mapIter _ _ _ _=>true
 |_=>false
theorem Bk.MF{x:Bk}{w:World}{b:Nat}{o:Obj}(h:Bk.at x w)(hb:Bk.id x=some b)(ho:w.heap[b]? =some o):Go.Vcg.MF o=true:=by
 cases x with
 | inl x=>
   obtain⟨arr,a,_⟩:=h;cases hb;rw[a]at ho;cases ho;rfl
 | inr r=>
   rcases h.2 with⟨hv,_⟩|⟨g,cap,cur,hv,_,a,_⟩
   ·simp[Bk.id,hv,Value.ownBlock]at hb
   ·simp[Bk.id,hv,Value.ownBlock]at hb;subst hb;rw[a]at ho;cases ho;rfl
 | mp m=>
   cases hb;have h:w.heap[m.b]? =_:=h;rw[h]at ho;cases ho;rfl
 | it b m s x c=>
   cases hb;have h:w.heap[b]? =_:=h;rw[h]at ho;cases ho;rfl
def aA9:List (Nat×Value)→bG→bG
 |[],l=>l
 |(p,v)::r,l=>aA9 r ((p,v)::l)
theorem RO:∀(pv:List (Nat×Value)) {l:bG} {tmps:Array Value},(∀x∈pv,x.1<tmps.size)→(∀t v,lk l t=some v→tmps[t]? =some v)→
 (∀t v,lk (aA9 pv l) t=some v→(pv.foldl (fun t (x:Nat×Value)=>t.setIfInBounds x.1 x.2) tmps)[t]? =some v)∧(pv.foldl (fun t (x:Nat×Value)=>t.setIfInBounds x.1 x.2) tmps).size=tmps.size
 |[],l,tmps,_,h=>⟨h,rfl⟩
 | (p, v)::r,l,tmps,hp,h=>by
   have h1:=RO r (l:=(p,v)::l) (tmps:=tmps.setIfInBounds p v) (fun x a=>by simpa using hp x (aS a)) (fun t u hu=>by
    by_cases e:p=t
    ·subst e;have h2:lk ((p,v)::l) p=some v:=by simp[lk]
     rw[h2]at hu;cases hu;exact cL (hp _ (aA ..))
    ·have h2:lk ((p,v)::l) t=lk l t:=by
      have:Nat.beq p t=false:=by cases b:Nat.beq p t with
       |false=>rfl
       |true=>exact absurd (cC b) e
      simp[lk,this]
     rw[h2]at hu;rw[cR e];exact h t u hu)
   refine⟨h1.1,?_⟩;have:=h1.2;rw[Array.size_setIfInBounds]at this;exact this
theorem LW(ps:List Nat)(vs:List Value)(tmps:Array Value):(ps.toArray.zip vs.toArray).foldl (fun t (p,v)=>t.setIfInBounds p v) tmps=(ps.zip vs).foldl (fun t (x:Nat×Value)=>t.setIfInBounds x.1 x.2) tmps:=by
 simp[gL]
def BQ{α ι:Type}(X2:Ctx)(μ:Mem)(JJ:List α→ι→Prop)(JX:Code→List α→ι→Prop)(Ls:ι→List Bk)(xs:List α):Exit→Act→World→Prop
 |.normal,a,w=>∃j,JJ xs j∧St X2 μ [] (Ls j) a w
 |.ret,a,w=>∃j,JX .ret xs j∧St X2 μ [] (Ls j) a w
 |.exit k,a,w=>∃j,JX (.exit k) xs j∧St X2 μ [] (Ls j) a w
 |.goto _,_,_=>False
 |.panic _,_,_=>False
 |.outgrown,_,_=>False
def AQ{κ:Type}(X2:Ctx)(μ:Mem)(l:κ→bG)(L:κ→List Bk):Exit→Act→World→Prop:=Exit.then (fun a w=>∃k,St X2 μ (l k) (L k) a w) (fun _ _ _=>False)
section
variable{P:Program}{X:Ctx}{Q:Exit→Act→World→Prop}{μ:Mem}{l:bG}{L:List Bk}{a:Act}{w:World}
theorem Marks.aGs{ds:List Deferred}(h:Marks X μ ds)(a:∀D∈X.M,D<X.w0.heap.size):ds=[]:=by
 obtain⟨Ds,h1,h2,h3⟩:=h;cases Ds with
 |nil=>exact h1
 | cons D r=>
   obtain⟨h4,h5,_⟩:=h3 D (by simp);have:=a D (List.count_pos_iff.1 (by omega));omega
theorem aHc{α ι:Type}{X2:Ctx}{JJ:List α→ι→Prop}{JX:Code→List α→ι→Prop}{Ls:ι→List Bk}{xs:List α}(j:ι)(hJ:JJ xs j)(hL:(Ls j).Sublist L):GQ X2 (BQ X2 μ JJ JX Ls xs) .normal μ l L:=fun _ _ hs=>
 ⟨j,hJ,hs.sub eK hL⟩
theorem aHd{κ:Type}{X2:Ctx}{l' :κ→bG}{L' :κ→List Bk}(k:κ)(hl:pN (l' k) l)(hL:Sel (L' k) L):GQ X2 (AQ X2 μ l' L') .normal μ l L:=fun _ _ hs=>⟨k,hs.sel hl hL⟩
theorem St.base{a' :Act}{l' :bG}{w' :World}(h:St X μ l L a w)(g:a'.tmps.size=X.n)(hd:a'.defers=[])(i:∀t v,lk l' t=some v→a'.tmps[t]? =some v)(d:MOk μ w')(c:∀x∈L,Bk.at x w'):St ⟨w',μ,fM L,X.n⟩ μ l' L a' w' :=
 ⟨g,by rw[hd];exact Marks.nil,i,yH.refl _ _,d,MLe.refl _,fun _ _ _ h=>h,c,h.priv,fun x j b hb=>.inl (fX.2 ⟨x,j,hb⟩),h.diff⟩
theorem St.aD5{L2:List Bk}{l2:bG}{a2:Act}{w2 w3 w4:World}{M2:List Nat}(h:St X μ l L a w)(h2:St ⟨w2,μ,M2,X.n⟩ μ l2 L2 a2 w3)(o:∀b∈M2,b∈fM L∨X.w0.heap.size≤b)(g:MOk μ w4)(d:∀x∈L2,Bk.at x w4)(c:X.w0.heap.size≤w2.heap.size)(hk:yH X.M X.w0 w4):St X μ l L2 a w4:=
 ⟨h.size,h.defers,h.slots,hk,g,h.from0,h.fresh,d,h2.priv,fun x k b hb=>(h2.new x k b hb).elim (fun hm=>(o b hm).elim (fun hm=>let ⟨y,j,i⟩:=fX.1 hm;h.new y j b i) .inr) (fun hle=>.inr (bO c hle)),h2.diff⟩
theorem ZD{r:Loop}{b:Nat}(a:∀x∈L,Bk.at x w)(hb:w.heap[b]? =some (.loop r)):b∉fM L:=fun hm=>by
 obtain⟨x,d,c⟩:=fX.1 hm;have:=Bk.MF (a x d) c hb;cases this
theorem JE{r:Loop}{b:Nat}{o' :Obj}(a:∀x∈L,Bk.at x w)(hb:w.heap[b]? =some (.loop r)):∀x∈L,Bk.at x (w.putObj b o'):=fun x d=>
 Bk.cW (a x d) fun c hc=>World.putObj_heap_other (fun e=>by
  subst e;have:=Bk.MF (a x d) hc hb;cases this)
theorem JI{b:Nat}{o' :Obj}(hm:MOk μ w)(hb:μ b=none):MOk μ (w.putObj b o'):=fun c o e=>by
 rw[World.putObj_heap_other (fun e' =>by subst e';rw[hb]at e;cases e)];exact hm c o e
theorem SQ(hm:MOk μ w){b:Nat}(hb:w.heap.size≤b):μ b=none:=by
 cases h:μ b with
 |none=>rfl
 | some o=>
   have:=(Array.getElem?_eq_some_iff.1 (hm b o h)).1;omega
end
end
section
open Go.RowKit
section
variable{P:Program}{X:Ctx}{Q:Exit→Act→World→Prop}{μ:Mem}{l:bG}{L:List Bk}{a:Act}{w:World}
theorem BW{f:FuncId}(hf:hG P f=true):∀args w,(callFunc f args).run P w=.ok (.enter f args) w:=fun args w=>by
 unfold hG at hf;cases h:P.funcs[f]? with
 |none=>simp[h]at hf
 | some fn=>
   simp only[h,aM,lC]at hf;obtain⟨hb,hn⟩:=hf;have b:¬fn.body=none:=fun e=>by rw[e]at hb;cases hb
   have a:¬fn.name= "runtime.NumGoroutine" :=by simpa using hn
   simp[callFunc,h,a,b]
theorem JP{α ι κ:Type}{g:Operand}{ps:List Nat}{assign body:Code}{gf:Nat}{lb:List Value}{enc:α→List Value}{Ok:List α→α→Prop}{N:Nat}{S Sp:List α→Prop}
 (hg:ev l g=some (.func (.func gf) #[] lb.toArray))(b2:hG P gf=true)
 (bu:∀x,(enc x).length=ps.length)(bw:∀p∈ps,p<X.n)(bg:aHr P gf lb enc Ok μ N S Sp)
 (JJ:List α→ι→Prop)(JX:Code→List α→ι→Prop)(Ls:ι→List Bk)(i0:ι)(h0:JJ [] i0)(b7:Sel (Ls i0) L)(la:α→κ→bG)(La:α→ι→κ→List Bk)
 (aq:∀lr pre x i w1,Ok pre x→GCI P (Fence.wide.inRound lr) 0 ⟨w1,μ,fM (Ls i),X.n⟩ assign (AQ ⟨w1,μ,fM (Ls i),X.n⟩ μ (la x) (La x i)) μ (aA9 (ps.zip (enc x)) l) (Ls i))
 (bb:∀lr pre x i k w2,Ok pre x→JJ pre i→pre.length<N→GCI P (Fence.wide.inRound lr) 0 ⟨w2,μ,fM (La x i k),X.n⟩ body (BQ ⟨w2,μ,fM (La x i k),X.n⟩ μ JJ JX Ls (pre++[x])) μ (la x k) (La x i k))
 (ba:∀D μD xs j,X.w0.heap.size≤D→MLe μ μD→S xs→JJ xs j→GQ ⟨X.w0,X.μ0,D::D::X.M,X.n⟩ Q .normal μD l (Ls j))
 (ay:∀D μD c pre j,X.w0.heap.size≤D→MLe μ μD→Sp pre→JX c pre j→GC P ⟨X.w0,X.μ0,D::D::X.M,X.n⟩ c Q μD l (Ls j)):
 GC P X (.rangeFunc g ps.toArray assign body) Q μ l L:=by
 intro a w hs;have eg:=BW b2;refine(wpIn_wide (n:=0)).1 (wpIn_rangeFunc ?_);intro fn b1;obtain⟨rec,q⟩:∃rec:LoopState→Option Code→Loop,rec=fun st pe=>{ state:=st,pending:=pe,fn,tmps:=a.tmps,params:=ps.toArray,assign,body,defers:=w.heap.size }:=⟨_,rfl⟩;obtain⟨W1,av⟩:∃W1,(w.alloc (.deferred (some []))).alloc (.loop (rec .ready none))=W1:=⟨_,rfl⟩;have b6:W1.heap[w.heap.size+1]? =some (.loop (rec .ready none)):=by rw[←av];have:=World.alloc_heap_new (w.alloc (.deferred (some []))) (.loop (rec .ready none));rwa[World.size_alloc]at this
 have b8:W1.heap[w.heap.size]? =some (.deferred (some [])):=by rw[←av];exact(Below.heap_alloc _ _ _ (by simp)).trans (World.alloc_heap_new w _)
 have bp:Below w.heap.size w W1:=by rw[←av];exact((Below.refl _ w).alloc (aP _) _).alloc (by simp) _
 have aw:μ w.heap.size=none:=SQ hs.mem (aP _);have ai:μ (w.heap.size+1)=none:=SQ hs.mem (Nat.le_succ _);have ax:X.w0.heap.size≤w.heap.size:=hs.cW.size;refine⟨w.heap.size+1,[{ target:=.collected w.heap.size,args:= #[] }],W1,{ target:=.fn (.func gf) lb.toArray,args:= #[.func (.yield (w.heap.size+1)) #[] #[]] },W1,gf,
  (Value.func (.yield (w.heap.size+1)) #[] #[]::lb).toArray,W1,?_,?_,?_,?_,fun e=>by simp[Fence.wide]at e,?_⟩
 ·rw[←av,q];exact run_enterLoop_outer _ _ _ _ _
 ·have he:=hs.eval hg;simp only[resolve,he];simp[go_sem]
 ·intro f' _;trivial
 ·simp[invoke,go_sem,eg]
 refine callsIn_wide.2 ((bg (w.heap.size+1)
  (fun pre W=>∃i,JJ pre i∧St X μ l (Ls i) a W∧W.heap[w.heap.size+1]? =some (.loop (rec .ready none))∧W.heap[w.heap.size]? =some (.deferred (some [])))
  (fun pre W=>∃c i,JX c pre i∧St X μ l (Ls i) a W∧W.heap[w.heap.size+1]? =some (.loop (rec .done (some c)))∧W.heap[w.heap.size]? =some (.deferred (some [])))
  W1 ?_ ?_ ?_ ?_ ?_).mono ?_)
 ·exact(hs.mM bp).mem
 ·rintro pre W W' ⟨i,h1,h2,h3,h4⟩ hb;exact⟨i,h1,h2.mM hb,(hb.block _ (Array.getElem?_eq_some_iff.1 h3).1).trans h3,(hb.block _ (Array.getElem?_eq_some_iff.1 h4).1).trans h4⟩
 ·rintro pre W W' ⟨c,i,h1,h2,h3,h4⟩ hb;exact⟨c,i,h1,h2.mM hb,(hb.block _ (Array.getElem?_eq_some_iff.1 h3).1).trans h3,(hb.block _ (Array.getElem?_eq_some_iff.1 h4).1).trans h4⟩
 ·-- a round
  rintro pre x Wp W bh ⟨i,hJ,bf,az,bk⟩ ap hlen;have d:=bf.mM ap;have hl:W.heap[w.heap.size+1]? =some (.loop (rec .ready none)):=(ap.block _ (Array.getElem?_eq_some_iff.1 az).1).trans az;have hk:W.heap[w.heap.size]? =some (.deferred (some [])):=(ap.block _ (Array.getElem?_eq_some_iff.1 bk).1).trans bk;have bx:w.heap.size+1<W.heap.size:=(Array.getElem?_eq_some_iff.1 hl).1;have u:=run_yield (P:=P) (args:=(enc x).toArray) hl (by rw[q];simpa using bu x);rw[q]at u;have af:=RO (ps.zip (enc x)) (l:=l) (tmps:=a.tmps) (fun y u=>by rw[hs.size];exact bw _ (List.of_mem_zip u).1) d.slots;rw[←LW]at af;have bm:w.heap.size+1∉fM (Ls i):=ZD d.own hl;have an:w.heap.size∉fM (Ls i):=fun hm=>by obtain⟨y,u,r⟩:=fX.1 hm;have:=Bk.MF (d.own y u) r hk;cases this
  have bt:St ⟨W,μ,fM (Ls i),X.n⟩ μ (aA9 (ps.zip (enc x)) l) (Ls i) { tmps:=(ps.toArray.zip (enc x).toArray).foldl (fun t (p,v)=>t.setIfInBounds p v) a.tmps,defers:=[] } W:=
   d.base (by rw[←hs.size];exact af.2) rfl af.1 d.mem d.own
  refine⟨fn,_,assign,body,u,roundIn_of_wpIn b1 (wpIn_mono (aq _ pre x i W bh _ _ bt) ?_)⟩;rintro e a1 w1 z;cases e with
  | normal=>
    obtain⟨k,z⟩:∃k,St ⟨W,μ,fM (Ls i),X.n⟩ μ (la x k) (La x i k) a1 w1:=z;have a7:w1.heap[w.heap.size+1]? =some (.loop (rec .ready none)):=(z.cW.block _ bx bm).trans hl;have b0:w1.heap[w.heap.size]? =some (.deferred (some [])):=(z.cW.block _ (show w.heap.size<W.heap.size by omega) an).trans hk;have bj:=(Array.getElem?_eq_some_iff.1 a7).1;refine⟨_,run_beginRound a7 (by rw[q]),?_⟩;have ar:(w1.putObj (w.heap.size+1) (.loop { rec .ready none with state:=.busy })).heap[w.heap.size+1]? =some (.loop { rec .ready none with state:=.busy }):=World.putObj_heap_same bj;have au:(w1.putObj (w.heap.size+1) (.loop { rec .ready none with state:=.busy })).heap[w.heap.size]? =some (.deferred (some [])):=(World.putObj_heap_other (by omega)).trans b0;have ae:=grownBy_putObj' w1 (w.heap.size+1) (.loop { rec .ready none with state:=.busy });have bi:∀b,b≠w.heap.size+1→(w1.putObj (w.heap.size+1) (.loop { rec .ready none with state:=.busy })).heap[b]? =w1.heap[b]? :=fun b hb=>World.putObj_heap_other hb;have ab:=JE (o' :=.loop { rec .ready none with state:=.busy }) z.own a7;have al:=JI (o' :=.loop { rec .ready none with state:=.busy }) z.mem ai;generalize w1.putObj (w.heap.size+1) (.loop { rec .ready none with state:=.busy })=w2 at ar au ae bi ab al⊢;have bq:∀D∈fM (Ls i),D<W.heap.size:=fun D hD=>by obtain⟨y,u,r⟩:=fX.1 hD;exact Bk.lt (d.own y u) r
    have bs:St ⟨w2,μ,fM (La x i k),X.n⟩ μ (la x k) (La x i k) a1 w2:=⟨z.size,by rw[z.defers.aGs bq];exact Marks.nil,z.slots,yH.refl _ _,al,MLe.refl _,fun _ _ _ h=>h,ab,z.priv,fun y u b hb=>.inl (fX.2 ⟨y,u,hb⟩),z.diff⟩
    ·refine wpIn_mono (bb _ pre x i k w2 bh hJ hlen _ _ bs) ?_
     have fin:∀(jump:Option Code) (j:ι) (a3:Act) (w3:World),St ⟨w2,μ,fM (La x i k),X.n⟩ μ [] (Ls j) a3 w3→∃W4,(Instr.endRound (w.heap.size+1) jump).run P w3=.ok (.bool jump.isNone) W4∧
      St X μ l (Ls j) a W4∧W4.heap[w.heap.size+1]? =some (.loop (rec (if jump.isNone then .ready else .done) jump))∧W4.heap[w.heap.size]? =some (.deferred (some []))∧(∀b,Wp.heap.size≤b→b<W.heap.size→W4.heap[b]? =W.heap[b]?):=by
      intro jump j a3 w3 aa;have a8:w.heap.size∉fM (La x i k):=fun hm=>by obtain⟨y,u,r⟩:=fX.1 hm;have:=Bk.MF (ab y u) r au;cases this
      have br:∀b∈fM (La x i k),b∈fM (Ls i)∨W.heap.size≤b:=fun b hb=>by obtain⟨y,u,r⟩:=fX.1 hb;exact z.new y u b r
      have a6:w3.heap[w.heap.size+1]? =some (.loop { rec .ready none with state:=.busy }):=(aa.cW.block _ (Array.getElem?_eq_some_iff.1 ar).1 (ZD ab ar)).trans ar;have bz:w3.heap[w.heap.size]? =some (.deferred (some [])):=(aa.cW.block _ (Array.getElem?_eq_some_iff.1 au).1 a8).trans au;have bn:=run_endRound (P:=P) jump a6;have ad:=grownBy_putObj' w3 (w.heap.size+1) (.loop { { rec .ready none with state:=.busy }with state:=if jump.isNone then .ready else .done,pending:=jump });have ag:∀b,b<W.heap.size→b∉fM (Ls i)→b≠w.heap.size+1→(w3.putObj (w.heap.size+1) (.loop { { rec .ready none with state:=.busy }with state:=if jump.isNone then .ready else .done,pending:=jump })).heap[b]? =W.heap[b]? :=fun b hb ah bo=>by rw[World.putObj_heap_other bo,aa.cW.block b (dJ hb (bO z.cW.size ae.size)) (fun b4=>(br b b4).elim ah (fun hle=>by omega)),bi b bo];exact z.cW.block b hb ah
      refine⟨_,bn,?_,?_,(World.putObj_heap_other (by omega)).trans bz,fun b hb b3=>?_⟩
      ·refine d.aD5 aa (fun b hb=>(br b hb).elim .inl (fun hle=>.inr (bO d.cW.size hle))) (JI aa.mem ai) (JE aa.own a6) ?_ ?_
       ·exact bO d.cW.size (bO z.cW.size ae.size)
       ·refine⟨?_,?_,?_,?_,fun b hb hM=>?_⟩
        ·exact ad.os.trans (aa.cW.os.trans (ae.os.trans (z.cW.os.trans d.cW.os)))
        ·exact ad.tape.trans (aa.cW.tape.trans (ae.tape.trans (z.cW.tape.trans d.cW.tape)))
        ·exact ad.output.trans (aa.cW.output.trans (ae.output.trans (z.cW.output.trans d.cW.output)))
        ·exact bO d.cW.size (bO z.cW.size (bO ae.size (bO aa.cW.size ad.size)))
        ·rw[ag b (dJ hb d.cW.size) (fun ah=>?_) (by omega)]
         ·exact d.cW.block b hb hM
         ·obtain⟨y,u,r⟩:=fX.1 ah;rcases d.new y u b r with h|h
          ·exact hM h
          ·omega
      ·rw[World.putObj_heap_same (Array.getElem?_eq_some_iff.1 a6).1,q]
      ·refine ag b b3 (fun ah=>?_) (fun e=>?_)
       ·obtain⟨y,u,r⟩:=fX.1 ah;have:=Bk.lt (bf.own y u) r;omega
       ·have:=(Array.getElem?_eq_some_iff.1 az).1;omega
     rintro e a3 w3 hp;cases e with
     | normal=>
       obtain⟨j,hj,ak⟩:=hp;obtain⟨W4,h1,h2,h3,h4,h5⟩:=fin none j a3 w3 ak;exact⟨_,_,h1,.inl ⟨rfl,⟨j,hj,h2,h3,h4⟩,h2.mem,h5⟩⟩
     | ret=>
       obtain⟨j,hj,ak⟩:=hp;obtain⟨W4,h1,h2,h3,h4,h5⟩:=fin (some .ret) j a3 w3 ak;exact⟨_,_,h1,.inr ⟨rfl,_,j,hj,h2,h3,h4⟩⟩
     | exit id=>
       obtain⟨j,hj,ak⟩:=hp;obtain⟨W4,h1,h2,h3,h4,h5⟩:=fin (some (.exit id)) j a3 w3 ak;exact⟨_,_,h1,.inr ⟨rfl,_,j,hj,h2,h3,h4⟩⟩
     |goto t=>exact hp.elim
     |panic ch=>exact hp.elim
     |outgrown=>exact hp.elim
  |exit id=>exact z.elim
  |goto t=>exact z.elim
  |ret=>exact z.elim
  |panic chain=>exact z.elim
  |outgrown=>exact z.elim
 ·exact⟨i0,h0,(hs.sel (fun _ _ h=>h) b7).mM bp,b6,b8⟩
 ·rintro e W2 ⟨⟨v,rfl⟩,h⟩;have ao:∀j st pe (o' :Obj),St X μ l (Ls j) a W2→W2.heap[w.heap.size+1]? =some (.loop (rec st pe))→W2.heap[w.heap.size]? =some (.deferred (some []))→
   ∃μD,MLe μ μD∧St ⟨X.w0,X.μ0,w.heap.size::w.heap.size::X.M,X.n⟩ μD l (Ls j) { a with defers:=[{ target:=.collected w.heap.size,args:= #[] }]++a.defers } (W2.putObj (w.heap.size+1) o'):=by
   intro j st pe o' d hl hk;have ad:=grownBy_putObj' W2 (w.heap.size+1) o';have hle:MLe μ (fun b=>if b=w.heap.size then some (.deferred (some []))else μ b):=fun b o e=>by
    by_cases hb:b=w.heap.size
    ·subst hb;rw[aw]at e;cases e
    ·simp[hb,e]
   have an:w.heap.size∉fM (Ls j):=fun hm=>by obtain⟨y,u,r⟩:=fX.1 hm;have:=Bk.MF (d.own y u) r hk;cases this
   refine⟨_,hle,d.size,?_,d.slots,?_,fun b o e=>?_,d.from0.trans hle,fun b hb hM h0=>?_,JE d.own hl,fun y u b hb=>?_,fun y u b hb=>?_,d.diff⟩
   ·obtain⟨Ds,h1,h2,h3⟩:=d.defers;refine⟨w.heap.size::Ds,by simp[h1],List.nodup_cons.2 ⟨fun hm=>?_,h2⟩,fun D hD=>?_⟩
    ·have:=(h3 _ hm).2.2;rw[aw]at this;cases this
    ·rcases aV.1 hD with rfl|hD
     ·exact⟨by simp,ax,by simp⟩
     ·obtain⟨h4,h5,h6⟩:=h3 D hD;refine⟨?_,h5,hle _ _ h6⟩;have:=List.count_le_count_cons (a:=D) (b:=w.heap.size) (l:=X.M);have:=List.count_le_count_cons (a:=D) (b:=w.heap.size) (l:=w.heap.size::X.M);show 2≤List.count D (w.heap.size::w.heap.size::X.M)
      omega
   ·refine⟨ad.os.trans d.cW.os,ad.tape.trans d.cW.tape,ad.output.trans d.cW.output,bO d.cW.size ad.size,fun b hb hM=>?_⟩;have hb:b<X.w0.heap.size:=hb;rw[World.putObj_heap_other (by omega)];exact d.cW.block b hb (fun h=>hM (by simp[h]))
   ·by_cases hb:b=w.heap.size
    ·subst hb;simp at e;subst e;rw[World.putObj_heap_other (by omega)];exact hk
    ·simp[hb]at e;exact JI d.mem ai b o e
   ·have hb:b<X.w0.heap.size:=hb;have bc:b≠w.heap.size:=by omega
    simp only[bc,if_false];exact d.fresh b hb (fun h=>hM (by simp[h])) h0
   ·have bc:b≠w.heap.size:=fun e=>an (fX.2 ⟨y,u,by rw[hb,e]⟩);simp only[bc,if_false];exact d.priv y u b hb
   ·rcases d.new y u b hb with h|h
    ·exact .inl (by simp[h])
    ·exact .inr h
  rcases h with⟨xs,hS,j,hJ,d,hl,hk⟩|⟨pre,b5,c,j,hJ,d,hl,hk⟩
  ·obtain⟨μD,hle,aj⟩:=ao j _ _ (.loop { rec .ready none with state:=.exhausted }) d hl hk;have he:=run_endLoop (P:=P) hl (by rw[q];simp);refine⟨none,_,?_,ba _ μD xs j ax hle hS hJ _ _ aj⟩;rw[he,q]
  ·obtain⟨μD,hle,aj⟩:=ao j _ _ (.loop { rec .done (some c)with state:=.exhausted }) d hl hk;have he:=run_endLoop (P:=P) hl (by rw[q];simp);refine⟨some c,_,?_,wpIn_wide.2 (ay _ μD c pre j ax hle b5 hJ _ _ aj)⟩;rw[he,q]
def aDk(P:Program)(fn:Func)(R:Ending→World→Prop):Exit→Act→World→Prop
 |.normal,a,w=>LeavesInM Fence.wide 0 P fn a.tmps R a.defers .returning w
 |.ret,a,w=>LeavesInM Fence.wide 0 P fn a.tmps R a.defers .returning w
 |.exit _,_,_=>False
 |.goto _,_,_=>False
 |.panic _,_,_=>False
 |.outgrown,_,_=>False
theorem NN{f:FuncId}{fn:Func}{c:Code}{args:List Value}{n:Nat}{R:Ending→World→Prop}(hf:P.funcs[f]? =some fn)(hb:fn.body=some c)(hn:fn.ntmps=n)(g:args.length≤n)
 (hμ:MOk μ w)(h:GC P ⟨w,μ,[],n⟩ c (aDk P fn R) μ (idx 0 args) []):Calls P f args.toArray w R:=by
 refine callsIn_wide.1 (callsIn_of_wp_marks (n:=0) hf hb trivial (wpIn_mono (wpIn_wide.2 (h _ _ ⟨?_,Marks.nil,fun t v hv=>?_,yH.refl _ _,hμ,MLe.refl _,fun _ _ _ h=>h,by simp,by simp,by simp,eM⟩)) (fun e a w' d=>by cases e<;>first|exact d|exact d.elim)))
 ·simp[hn];omega
 ·obtain⟨_,h2⟩:=vN _ _ _ _ hv;have b:t<args.length:=by have:=(List.getElem?_eq_some_iff.1 h2).1;simpa using this
  simp only[lJ]at h2;rw[hZ (by simpa using b)];simpa using h2
theorem yY{fn:Func}{tmps:Array Value}{R:Ending→World→Prop}{B:Nat}:∀(Ds:List Nat) (w:World),Ds.Nodup→(∀D∈Ds,B≤D∧w.heap[D]? =some (.deferred (some [])))→(∀w',Below B w w' →(∀b,b∉Ds→w'.heap[b]? =w.heap[b]?)→LeavesIn Fence.wide 0 P fn tmps R [] .returning w')→
 LeavesInM Fence.wide 0 P fn tmps R (Ds.map (fun D=>{ target:=.collected D,args:= #[] })) .returning w
 |[],w,_,_,h=>h w (Below.refl _ _) (fun _ _=>rfl)
 | D::r,w,hn,j,h=>by
   obtain⟨h1,h2⟩:=j D (aA ..);have l:=(Array.getElem?_eq_some_iff.1 h2).1;have hb:Below B w (w.putObj D (.deferred none)):=(Below.refl B w).grown (grownBy_putObj' w D _) (by omega) (fun k e=>by cases e;omega);refine⟨by simp,.inl ⟨D,_,rfl,run_takeDeferred h2,yY r _ (List.nodup_cons.1 hn).2 (fun D' c=>?_) fun w' d i=>h w' (hb.trans d) (fun b a=>?_)⟩⟩
   ·obtain⟨h3,h4⟩:=j D' (aS c);refine⟨h3,?_⟩;have g:D' ≠D:=fun e=>(List.nodup_cons.1 hn).1 (by rw[←e];exact c);rw[World.putObj_heap_other g];exact h4
   ·rw[i b (fun hm=>a (aS hm)),World.putObj_heap_other (fun e=>a (by rw[e];exact aA ..))]
theorem aGl{fn:Func}{n:Nat}{r:ResultVar}{v v' :Value}{μ0:Mem}{M:List Nat}(hr:fn.results= #[r])(h:RV P (fun _=>none) l L r v')(e:v' =v)(k:∀b∈M,w.heap.size≤b):
 GQ ⟨w,μ0,M,n⟩ (aDk P fn (fun e w' =>e=.returned v∧Below w.heap.size w w')) .ret μ l L:=fun a w' hs=>by
 subst e;obtain⟨Ds,h1,h2,h3⟩:=hs.defers;show LeavesInM Fence.wide 0 P fn a.tmps _ a.defers .returning w'
 rw[h1];have hk:Below w.heap.size w w' :=⟨hs.cW.os,hs.cW.tape,hs.cW.output,hs.cW.size,fun b hb=>hs.cW.block b hb (fun hm=>by have:=k b hm;omega)⟩;have d:∀D∈Ds,w'.heap[D]? =some (.deferred (some [])):=fun D c=>hs.mem _ _ (h3 D c).2.2;refine yY (B:=w.heap.size) Ds w' h2 (fun D c=>⟨(h3 D c).2.1,d D c⟩) fun w2 g i=>⟨_,results1 hr h ⟨hs.slots,(fun _ _ e=>by cases e),fun x j=>Bk.cW (hs.own x j) fun b hb=>i b (fun c=>?_)⟩,rfl,hk.trans g⟩;have:=Bk.MF (hs.own x j) hb (d b c);cases this
end
end
end Go.Vcg
