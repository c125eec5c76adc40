/- Package read: literals, primary expressions. -/
import Derived.Test.YtknieidhopbngaaGreatQaq
import Derived.Test.YtknieidhopbngaaGreatQas
set_option maxRecDepth 20000
set_option maxHeartbeats 2000000
namespace Go.Proofs.YtknieidhopbngaaGreat
section
open Go.RowKit Go.Vcg
attribute [local irreducible] jE G GC GQ GA dV Calls IntKind.wrap Int.decLt Int.decLe
section
variable{E:TkE}{src:ByteArray}{V:RPl}{xb n:Nat}{r:RdR}{s:RdS}{μ:Mem}(hE:TOk E src)(hr:nB E src n r)(hw:rO E src V xb n r)(h8:∀b s,(r.stm b s).1.op=8→(r.stm b s).1.kids≠[])(hi:In E src s)(hm:RM E V μ)
include hE hr hw h8 hi hm
theorem OX(z:isR E s ⟨#[91]⟩=true∨isR E s ⟨#[123]⟩=true)(hn:8*(E.ts.length-s.i)≤n+2):zCR E V xb 167 [.pointer (some ⟨xb,0,none⟩)] s (pG E r s).2 μ (fun μ' v=>TV μ' (pG E r s).1 v):=by
 intro w hμ l;have g:=bF l.diff;have hl:=hi.lt;generalize d:pG E r s=q;unfold pG bd at d;try dsimp only at d
 by_cases hb:s.bg=s.i
 ·rw [if_pos hb]at d;by_cases c1:isR E s ⟨#[91]⟩=true
  ·rw[if_pos c1]at d;have h1:=fun(μ9:Mem) (y:MLe μ μ9)=>LM hE hr hw hi (hm.mono y) (cY c1) (by omega);have m1:=(KA hE hr hi (cY c1) (by omega)).mv;generalize sK E r s=p9 at d h1 m1;obtain⟨x1,s1⟩:=p9;dsimp only at d h1 m1;have k:=m1.inn hi;have l1:=m1.le;have t1:=m1.lt;obtain⟨x1,y1⟩:=x1;dsimp only at d h1;by_cases h2:s1.e=0∧0≤y1
   ·rw[if_pos h2]at d;obtain⟨u,p⟩:=id h2;by_cases h:(isR E s1 ⟨#[61]⟩||(decide (s.as' =1)&&(isR E s1 ⟨#[44]⟩||isR E s1 ⟨#[93]⟩||isR E s1 ⟨#[125]⟩||isR E s1 ⟨#[41]⟩))||(decide (s.as' =2)&&kJ E s1))=true
    ·rw[if_pos h]at d;subst d;refine aC Tryz.func167 rfl Tryz.ntmps167 (by simp) hμ l ?_;try repeat' (first|refine KZ ?_|refine NB fun b=>?_)
     refine aW 9 _ (by kernel_rfl) rfl (aG (aK aU)) ?_;all_goals(refine DD 0 ?_;refine DD 1 ?_;refine DD 2 ?_;refine DD 3 ?_;refine DD 4 ?_;refine DD 5 ?_;refine DD 6 ?_;refine DD 7 ?_;refine DD 8 ?_;refine D8 ?_)
     all_goals try repeat' (first|refine PBT ?_|refine KO ?_|(refine CF 23 ?_;refine GP2 rfl (dD (by assumption) (hm.mono ML) _) ?_;dsimp only[ca,na])|(refine CF 108 ?_;refine GP1 rfl (pW (by assumption) (hm.mono ML)) ?_;dsimp only[ca,na])|(refine CF 169 ?_;refine GR1 rfl (h1 _ ML) ?_;(rintro v1 μ1 a ⟨u1,rfl,c⟩;have o_u1:=c.one;have H1:MLe μ μ1:=MLe.trans ML a);dsimp only[ca,na])|refine KZ ?_|refine XS0 ?_|refine XS1 ?_|refine NB fun b=>?_|(refine KB ?_ ?_<;>intro hp))
     all_goals try(exfalso;(simp_all;done))
     all_goals(apply aX g rfl;exact(RG 1 rfl rfl rfl rfl rfl);exact rfl;exact .cells PU;exact fun μ' hle j=>c.mono hle)
    ·rw[if_neg h]at d;have o:=eq_false_of_ne_true h;obtain⟨s2,e2,x,l2,t2⟩:=lN hE k (y1) (23);rw[e2]at d;subst d;refine aC Tryz.func167 rfl Tryz.ntmps167 (by simp) hμ l ?_;try repeat' (first|refine KZ ?_|refine NB fun b=>?_)
     refine aW 9 _ (by kernel_rfl) rfl (aG (aK aU)) ?_;all_goals(refine DD 0 ?_;refine DD 1 ?_;refine DD 2 ?_;refine DD 3 ?_;refine DD 4 ?_;refine DD 5 ?_;refine DD 6 ?_;refine DD 7 ?_;refine DD 8 ?_;refine D8 ?_)
     all_goals try repeat' (first|refine PBT ?_|refine KO ?_|(refine CF 23 ?_;refine GP2 rfl (dD (by assumption) (hm.mono ML) _) ?_;dsimp only[ca,na])|(refine CF 46 ?_;refine GU3 rfl (mC (by assumption) (by assumption) (hm.mono ML)) ?_;intro v9;dsimp only[ca,na])|(refine CF 108 ?_;refine GP1 rfl (pW (by assumption) (hm.mono ML)) ?_;dsimp only[ca,na])|(refine CF 169 ?_;refine GR1 rfl (h1 _ ML) ?_;(rintro v1 μ1 a ⟨u1,rfl,c⟩;have o_u1:=c.one;have H1:MLe μ μ1:=MLe.trans ML a);dsimp only[ca,na])|refine KZ ?_|refine XS0 ?_|refine XS1 ?_|refine NB fun b=>?_|(refine KB ?_ ?_<;>intro hp))
     all_goals try(exfalso;(simp_all;done))
     all_goals(apply aX g rfl;exact(RG 1 rfl rfl rfl rfl rfl);exact rfl;exact .cells PU;exact fun μ' hle j=>c.mono hle)
   ·rw[if_neg h2]at d;subst d;refine aC Tryz.func167 rfl Tryz.ntmps167 (by simp) hμ l ?_;try repeat' (first|refine KZ ?_|refine NB fun b=>?_)
    refine aW 9 _ (by kernel_rfl) rfl (aG (aK aU)) ?_;all_goals(refine DD 0 ?_;refine DD 1 ?_;refine DD 2 ?_;refine DD 3 ?_;refine DD 4 ?_;refine DD 5 ?_;refine DD 6 ?_;refine DD 7 ?_;refine DD 8 ?_;refine D8 ?_)
    all_goals try repeat' (first|refine PBT ?_|refine KO ?_|(refine CF 23 ?_;refine GP2 rfl (dD (by assumption) (hm.mono ML) _) ?_;dsimp only[ca,na])|(refine CF 169 ?_;refine GR1 rfl (h1 _ ML) ?_;(rintro v1 μ1 a ⟨u1,rfl,c⟩;have o_u1:=c.one;have H1:MLe μ μ1:=MLe.trans ML a);dsimp only[ca,na])|refine KZ ?_|refine XS0 ?_|refine XS1 ?_|refine NB fun b=>?_|(refine KB ?_ ?_<;>intro hp))
    all_goals(apply aX g rfl;exact(RG 1 rfl rfl rfl rfl rfl);exact rfl;exact .refl _;exact fun μ' hle j=>c.mono hle)
  ·rw[if_neg c1]at d;have c1f:=eq_false_of_ne_true c1;have h1:=fun(μ9:Mem) (y:MLe μ μ9)=>HE hE hr hw h8 hi (hm.mono y) (cY (z.resolve_left c1)) (by omega);have m1:=(DX hE hr hi (cY (z.resolve_left c1)) (by omega)).mv;generalize oY E r s=p9 at d h1 m1;obtain⟨x1,s1⟩:=p9;dsimp only at d h1 m1;have k:=m1.inn hi;have l1:=m1.le;have t1:=m1.lt;obtain⟨x1,y1⟩:=x1;dsimp only at d h1;by_cases h2:s1.e=0∧0≤y1
   ·rw[if_pos h2]at d;obtain⟨u,p⟩:=id h2;by_cases h:(isR E s1 ⟨#[61]⟩||(decide (s.as' =1)&&(isR E s1 ⟨#[44]⟩||isR E s1 ⟨#[93]⟩||isR E s1 ⟨#[125]⟩||isR E s1 ⟨#[41]⟩))||(decide (s.as' =2)&&kJ E s1))=true
    ·rw[if_pos h]at d;subst d;refine aC Tryz.func167 rfl Tryz.ntmps167 (by simp) hμ l ?_;try repeat' (first|refine KZ ?_|refine NB fun b=>?_)
     refine aW 9 _ (by kernel_rfl) rfl (aG (aK aU)) ?_;all_goals(refine DD 0 ?_;refine DD 1 ?_;refine DD 2 ?_;refine DD 3 ?_;refine DD 4 ?_;refine DD 5 ?_;refine DD 6 ?_;refine DD 7 ?_;refine DD 8 ?_;refine D8 ?_)
     all_goals try repeat' (first|refine PBF ?_|refine KO ?_|(refine CF 23 ?_;refine GP2 rfl (dD (by assumption) (hm.mono ML) _) ?_;dsimp only[ca,na])|(refine CF 108 ?_;refine GP1 rfl (pW (by assumption) (hm.mono ML)) ?_;dsimp only[ca,na])|(refine CF 170 ?_;refine GR1 rfl (h1 _ ML) ?_;(rintro v1 μ1 a ⟨u1,rfl,c⟩;have o_u1:=c.one;have H1:MLe μ μ1:=MLe.trans ML a);dsimp only[ca,na])|refine KZ ?_|refine XS0 ?_|refine XS1 ?_|refine NB fun b=>?_|(refine KB ?_ ?_<;>intro hp))
     all_goals try(exfalso;(simp_all;done))
     all_goals(apply aX g rfl;exact(RG 1 rfl rfl rfl rfl rfl);exact rfl;exact .cells PU;exact fun μ' hle j=>c.mono hle)
    ·rw[if_neg h]at d;have o:=eq_false_of_ne_true h;obtain⟨s2,e2,x,l2,t2⟩:=lN hE k (y1) (23);rw[e2]at d;subst d;refine aC Tryz.func167 rfl Tryz.ntmps167 (by simp) hμ l ?_;try repeat' (first|refine KZ ?_|refine NB fun b=>?_)
     refine aW 9 _ (by kernel_rfl) rfl (aG (aK aU)) ?_;all_goals(refine DD 0 ?_;refine DD 1 ?_;refine DD 2 ?_;refine DD 3 ?_;refine DD 4 ?_;refine DD 5 ?_;refine DD 6 ?_;refine DD 7 ?_;refine DD 8 ?_;refine D8 ?_)
     all_goals try repeat' (first|refine PBF ?_|refine KO ?_|(refine CF 23 ?_;refine GP2 rfl (dD (by assumption) (hm.mono ML) _) ?_;dsimp only[ca,na])|(refine CF 46 ?_;refine GU3 rfl (mC (by assumption) (by assumption) (hm.mono ML)) ?_;intro v9;dsimp only[ca,na])|(refine CF 108 ?_;refine GP1 rfl (pW (by assumption) (hm.mono ML)) ?_;dsimp only[ca,na])|(refine CF 170 ?_;refine GR1 rfl (h1 _ ML) ?_;(rintro v1 μ1 a ⟨u1,rfl,c⟩;have o_u1:=c.one;have H1:MLe μ μ1:=MLe.trans ML a);dsimp only[ca,na])|refine KZ ?_|refine XS0 ?_|refine XS1 ?_|refine NB fun b=>?_|(refine KB ?_ ?_<;>intro hp))
     all_goals try(exfalso;(simp_all;done))
     all_goals(apply aX g rfl;exact(RG 1 rfl rfl rfl rfl rfl);exact rfl;exact .cells PU;exact fun μ' hle j=>c.mono hle)
   ·rw[if_neg h2]at d;subst d;refine aC Tryz.func167 rfl Tryz.ntmps167 (by simp) hμ l ?_;try repeat' (first|refine KZ ?_|refine NB fun b=>?_)
    refine aW 9 _ (by kernel_rfl) rfl (aG (aK aU)) ?_;all_goals(refine DD 0 ?_;refine DD 1 ?_;refine DD 2 ?_;refine DD 3 ?_;refine DD 4 ?_;refine DD 5 ?_;refine DD 6 ?_;refine DD 7 ?_;refine DD 8 ?_;refine D8 ?_)
    all_goals try repeat' (first|refine PBF ?_|refine KO ?_|(refine CF 23 ?_;refine GP2 rfl (dD (by assumption) (hm.mono ML) _) ?_;dsimp only[ca,na])|(refine CF 170 ?_;refine GR1 rfl (h1 _ ML) ?_;(rintro v1 μ1 a ⟨u1,rfl,c⟩;have o_u1:=c.one;have H1:MLe μ μ1:=MLe.trans ML a);dsimp only[ca,na])|refine KZ ?_|refine XS0 ?_|refine XS1 ?_|refine NB fun b=>?_|(refine KB ?_ ?_<;>intro hp))
    all_goals(apply aX g rfl;exact(RG 1 rfl rfl rfl rfl rfl);exact rfl;exact .refl _;exact fun μ' hle j=>c.mono hle)
 ·rw [if_neg hb]at d;by_cases c1:isR E s ⟨#[91]⟩=true
  ·rw[if_pos c1]at d;have h1:=fun(μ9:Mem) (y:MLe μ μ9)=>LM hE hr hw hi (hm.mono y) (cY c1) (by omega);have m1:=(KA hE hr hi (cY c1) (by omega)).mv;generalize sK E r s=p9 at d h1 m1;obtain⟨x1,s1⟩:=p9;dsimp only at d h1 m1;have k:=m1.inn hi;have l1:=m1.le;have t1:=m1.lt;obtain⟨x1,y1⟩:=x1;dsimp only at d h1;by_cases h2:s1.e=0∧0≤y1
   ·rw[if_pos h2]at d;obtain⟨u,p⟩:=id h2;by_cases h:(isR E s1 ⟨#[61]⟩||(decide ((0:Int)=1)&&(isR E s1 ⟨#[44]⟩||isR E s1 ⟨#[93]⟩||isR E s1 ⟨#[125]⟩||isR E s1 ⟨#[41]⟩))||(decide ((0:Int)=2)&&kJ E s1))=true
    ·rw[if_pos h]at d;subst d;refine aC Tryz.func167 rfl Tryz.ntmps167 (by simp) hμ l ?_;try repeat' (first|refine KZ ?_|refine NB fun b=>?_)
     refine aW 9 _ (by kernel_rfl) rfl (aG (aK aU)) ?_;all_goals(refine DD 0 ?_;refine DD 1 ?_;refine DD 2 ?_;refine DD 3 ?_;refine DD 4 ?_;refine DD 5 ?_;refine DD 6 ?_;refine DD 7 ?_;refine DD 8 ?_;refine D8 ?_)
     all_goals try repeat' (first|refine PBT ?_|refine KO ?_|(refine CF 23 ?_;refine GP2 rfl (dD (by assumption) (hm.mono ML) _) ?_;dsimp only[ca,na])|(refine CF 169 ?_;refine GR1 rfl (h1 _ ML) ?_;(rintro v1 μ1 a ⟨u1,rfl,c⟩;have o_u1:=c.one;have H1:MLe μ μ1:=MLe.trans ML a);dsimp only[ca,na])|refine KZ ?_|refine XS0 ?_|refine XS1 ?_|refine NB fun b=>?_|(refine KB ?_ ?_<;>intro hp))
     all_goals try(exfalso;(simp_all;done))
     all_goals(apply aX g rfl;exact(RG 1 rfl rfl rfl rfl rfl);exact rfl;exact .cells PU;exact fun μ' hle j=>c.mono hle)
    ·rw[if_neg h]at d;have o:=eq_false_of_ne_true h;obtain⟨s2,e2,x,l2,t2⟩:=lN hE k (y1) (23);rw[e2]at d;subst d;refine aC Tryz.func167 rfl Tryz.ntmps167 (by simp) hμ l ?_;try repeat' (first|refine KZ ?_|refine NB fun b=>?_)
     refine aW 9 _ (by kernel_rfl) rfl (aG (aK aU)) ?_;all_goals(refine DD 0 ?_;refine DD 1 ?_;refine DD 2 ?_;refine DD 3 ?_;refine DD 4 ?_;refine DD 5 ?_;refine DD 6 ?_;refine DD 7 ?_;refine DD 8 ?_;refine D8 ?_)
     all_goals try repeat' (first|refine PBT ?_|refine KO ?_|(refine CF 23 ?_;refine GP2 rfl (dD (by assumption) (hm.mono ML) _) ?_;dsimp only[ca,na])|(refine CF 46 ?_;refine GU3 rfl (mC (by assumption) (by assumption) (hm.mono ML)) ?_;intro v9;dsimp only[ca,na])|(refine CF 169 ?_;refine GR1 rfl (h1 _ ML) ?_;(rintro v1 μ1 a ⟨u1,rfl,c⟩;have o_u1:=c.one;have H1:MLe μ μ1:=MLe.trans ML a);dsimp only[ca,na])|refine KZ ?_|refine XS0 ?_|refine XS1 ?_|refine NB fun b=>?_|(refine KB ?_ ?_<;>intro hp))
     all_goals try(exfalso;(simp_all;done))
     all_goals(apply aX g rfl;exact(RG 1 rfl rfl rfl rfl rfl);exact rfl;exact .cells PU;exact fun μ' hle j=>c.mono hle)
   ·rw[if_neg h2]at d;subst d;refine aC Tryz.func167 rfl Tryz.ntmps167 (by simp) hμ l ?_;try repeat' (first|refine KZ ?_|refine NB fun b=>?_)
    refine aW 9 _ (by kernel_rfl) rfl (aG (aK aU)) ?_;all_goals(refine DD 0 ?_;refine DD 1 ?_;refine DD 2 ?_;refine DD 3 ?_;refine DD 4 ?_;refine DD 5 ?_;refine DD 6 ?_;refine DD 7 ?_;refine DD 8 ?_;refine D8 ?_)
    all_goals try repeat' (first|refine PBT ?_|refine KO ?_|(refine CF 23 ?_;refine GP2 rfl (dD (by assumption) (hm.mono ML) _) ?_;dsimp only[ca,na])|(refine CF 169 ?_;refine GR1 rfl (h1 _ ML) ?_;(rintro v1 μ1 a ⟨u1,rfl,c⟩;have o_u1:=c.one;have H1:MLe μ μ1:=MLe.trans ML a);dsimp only[ca,na])|refine KZ ?_|refine XS0 ?_|refine XS1 ?_|refine NB fun b=>?_|(refine KB ?_ ?_<;>intro hp))
    all_goals(apply aX g rfl;exact(RG 1 rfl rfl rfl rfl rfl);exact rfl;exact .refl _;exact fun μ' hle j=>c.mono hle)
  ·rw[if_neg c1]at d;have c1f:=eq_false_of_ne_true c1;have h1:=fun(μ9:Mem) (y:MLe μ μ9)=>HE hE hr hw h8 hi (hm.mono y) (cY (z.resolve_left c1)) (by omega);have m1:=(DX hE hr hi (cY (z.resolve_left c1)) (by omega)).mv;generalize oY E r s=p9 at d h1 m1;obtain⟨x1,s1⟩:=p9;dsimp only at d h1 m1;have k:=m1.inn hi;have l1:=m1.le;have t1:=m1.lt;obtain⟨x1,y1⟩:=x1;dsimp only at d h1;by_cases h2:s1.e=0∧0≤y1
   ·rw[if_pos h2]at d;obtain⟨u,p⟩:=id h2;by_cases h:(isR E s1 ⟨#[61]⟩||(decide ((0:Int)=1)&&(isR E s1 ⟨#[44]⟩||isR E s1 ⟨#[93]⟩||isR E s1 ⟨#[125]⟩||isR E s1 ⟨#[41]⟩))||(decide ((0:Int)=2)&&kJ E s1))=true
    ·rw[if_pos h]at d;subst d;refine aC Tryz.func167 rfl Tryz.ntmps167 (by simp) hμ l ?_;try repeat' (first|refine KZ ?_|refine NB fun b=>?_)
     refine aW 9 _ (by kernel_rfl) rfl (aG (aK aU)) ?_;all_goals(refine DD 0 ?_;refine DD 1 ?_;refine DD 2 ?_;refine DD 3 ?_;refine DD 4 ?_;refine DD 5 ?_;refine DD 6 ?_;refine DD 7 ?_;refine DD 8 ?_;refine D8 ?_)
     all_goals try repeat' (first|refine PBF ?_|refine KO ?_|(refine CF 23 ?_;refine GP2 rfl (dD (by assumption) (hm.mono ML) _) ?_;dsimp only[ca,na])|(refine CF 170 ?_;refine GR1 rfl (h1 _ ML) ?_;(rintro v1 μ1 a ⟨u1,rfl,c⟩;have o_u1:=c.one;have H1:MLe μ μ1:=MLe.trans ML a);dsimp only[ca,na])|refine KZ ?_|refine XS0 ?_|refine XS1 ?_|refine NB fun b=>?_|(refine KB ?_ ?_<;>intro hp))
     all_goals try(exfalso;(simp_all;done))
     all_goals(apply aX g rfl;exact(RG 1 rfl rfl rfl rfl rfl);exact rfl;exact .cells PU;exact fun μ' hle j=>c.mono hle)
    ·rw[if_neg h]at d;have o:=eq_false_of_ne_true h;obtain⟨s2,e2,x,l2,t2⟩:=lN hE k (y1) (23);rw[e2]at d;subst d;refine aC Tryz.func167 rfl Tryz.ntmps167 (by simp) hμ l ?_;try repeat' (first|refine KZ ?_|refine NB fun b=>?_)
     refine aW 9 _ (by kernel_rfl) rfl (aG (aK aU)) ?_;all_goals(refine DD 0 ?_;refine DD 1 ?_;refine DD 2 ?_;refine DD 3 ?_;refine DD 4 ?_;refine DD 5 ?_;refine DD 6 ?_;refine DD 7 ?_;refine DD 8 ?_;refine D8 ?_)
     all_goals try repeat' (first|refine PBF ?_|refine KO ?_|(refine CF 23 ?_;refine GP2 rfl (dD (by assumption) (hm.mono ML) _) ?_;dsimp only[ca,na])|(refine CF 46 ?_;refine GU3 rfl (mC (by assumption) (by assumption) (hm.mono ML)) ?_;intro v9;dsimp only[ca,na])|(refine CF 170 ?_;refine GR1 rfl (h1 _ ML) ?_;(rintro v1 μ1 a ⟨u1,rfl,c⟩;have o_u1:=c.one;have H1:MLe μ μ1:=MLe.trans ML a);dsimp only[ca,na])|refine KZ ?_|refine XS0 ?_|refine XS1 ?_|refine NB fun b=>?_|(refine KB ?_ ?_<;>intro hp))
     all_goals try(exfalso;(simp_all;done))
     all_goals(apply aX g rfl;exact(RG 1 rfl rfl rfl rfl rfl);exact rfl;exact .cells PU;exact fun μ' hle j=>c.mono hle)
   ·rw[if_neg h2]at d;subst d;refine aC Tryz.func167 rfl Tryz.ntmps167 (by simp) hμ l ?_;try repeat' (first|refine KZ ?_|refine NB fun b=>?_)
    refine aW 9 _ (by kernel_rfl) rfl (aG (aK aU)) ?_;all_goals(refine DD 0 ?_;refine DD 1 ?_;refine DD 2 ?_;refine DD 3 ?_;refine DD 4 ?_;refine DD 5 ?_;refine DD 6 ?_;refine DD 7 ?_;refine DD 8 ?_;refine D8 ?_)
    all_goals try repeat' (first|refine PBF ?_|refine KO ?_|(refine CF 23 ?_;refine GP2 rfl (dD (by assumption) (hm.mono ML) _) ?_;dsimp only[ca,na])|(refine CF 170 ?_;refine GR1 rfl (h1 _ ML) ?_;(rintro v1 μ1 a ⟨u1,rfl,c⟩;have o_u1:=c.one;have H1:MLe μ μ1:=MLe.trans ML a);dsimp only[ca,na])|refine KZ ?_|refine XS0 ?_|refine XS1 ?_|refine NB fun b=>?_|(refine KB ?_ ?_<;>intro hp))
    all_goals(apply aX g rfl;exact(RG 1 rfl rfl rfl rfl rfl);exact rfl;exact .refl _;exact fun μ' hle j=>c.mono hle)
theorem DP(hn:8*(E.ts.length-s.i)≤n+2):zCR E V xb 158 [.pointer (some ⟨xb,0,none⟩)] s (lQ E r s).2 μ (fun μ' v=>TV μ' (lQ E r s).1 v):=by
 intro w hμ l;have c:=bF l.diff;have hl:=hi.lt;generalize a:lQ E r s=q;unfold lQ at a;try dsimp only at a
 by_cases p1:(aJ E s).k=3
 ·rw[if_pos p1]at a;obtain⟨s1,e1,m1,i1,t1,o1,-⟩:=aT hE (mv0 hi) (fun e=>by omega);have j:=m1.inn hi;rw[e1]at a;subst a;refine aC Tryz.func158 rfl Tryz.ntmps158 (by simp) hμ l ?_;try repeat' (first|refine KO ?_|(refine CF 22 ?_;refine GP1 rfl (bK (by assumption) (hm.mono ML)) ?_;dsimp only[ca,na])|refine KZ ?_|refine NB fun b=>?_)
  refine aW 6 _ (by kernel_rfl) rfl (aG (aK (aG (aG aU)))) ?_;all_goals(refine DD 0 ?_;refine DD 1 ?_;refine DD 2 ?_;refine D3 3 ?_;refine D5 ?_;refine Y0 ?_;refine D9 ?_;refine DD 4 ?_;refine D3 5 ?_;refine D5 ?_;refine Y0 ?_;refine D9 ?_;refine D8 ?_)
  all_goals try repeat' (first|refine KO ?_|(refine CF 42 ?_;refine GP1 rfl (bN (by assumption) (by assumption) (hm.mono ML)) ?_;dsimp only[ca,na])|refine KZ ?_)
  all_goals(apply aX c rfl;exact(RG 2 rfl rfl rfl rfl rfl);exact rfl;exact .refl _;exact fun μ' hle d=>KR.nil _ _ _)
 ·rw [if_neg p1]at a;by_cases p2:(aJ E s).k=4
  ·rw[if_pos p2]at a;obtain⟨s1,e1,m1,i1,t1,o1,-⟩:=aT hE (mv0 hi) (fun e=>by omega);have j:=m1.inn hi;rw[e1]at a;subst a;refine aC Tryz.func158 rfl Tryz.ntmps158 (by simp) hμ l ?_;try repeat' (first|refine KO ?_|(refine CF 22 ?_;refine GP1 rfl (bK (by assumption) (hm.mono ML)) ?_;dsimp only[ca,na])|refine KZ ?_|refine NB fun b=>?_)
   refine aW 6 _ (by kernel_rfl) rfl (aG (aK (aG (aG aU)))) ?_;all_goals(refine DD 0 ?_;refine DD 1 ?_;refine DD 2 ?_;refine D3 3 ?_;refine D5 ?_;refine Y0 ?_;refine D9 ?_;refine DD 4 ?_;refine D3 5 ?_;refine D5 ?_;refine Y0 ?_;refine D9 ?_;refine D8 ?_)
   all_goals try repeat' (first|refine KO ?_|(refine CF 42 ?_;refine GP1 rfl (bN (by assumption) (by assumption) (hm.mono ML)) ?_;dsimp only[ca,na])|refine KZ ?_)
   all_goals(apply aX c rfl;exact(RG 2 rfl rfl rfl rfl rfl);exact rfl;exact .refl _;exact fun μ' hle d=>KR.nil _ _ _)
  ·rw [if_neg p2]at a;by_cases p3:cP E s ⟨#[116,114,117,101]⟩=true
   ·rw[if_pos p3]at a;obtain⟨s1,e1,m1,i1,t1,o1,-⟩:=aT hE (mv0 hi) (eC p3);have j:=m1.inn hi;rw[e1]at a;subst a;refine aC Tryz.func158 rfl Tryz.ntmps158 (by simp) hμ l ?_;try repeat' (first|refine PBT ?_|refine KO ?_|(refine CF 22 ?_;refine GP1 rfl (bK (by assumption) (hm.mono ML)) ?_;dsimp only[ca,na])|(refine CF 24 ?_;refine GP2 rfl (cS (by assumption) (hm.mono ML) _) ?_;dsimp only[ca,na])|(refine CF 42 ?_;refine GP1 rfl (bN (by assumption) (by assumption) (hm.mono ML)) ?_;dsimp only[ca,na])|refine KZ ?_|refine NB fun b=>?_)
    all_goals(apply aX c rfl;exact(RG 2 rfl rfl rfl rfl rfl);exact rfl;exact .refl _;exact fun μ' hle d=>KR.nil _ _ _)
   ·rw [if_neg p3]at a;have p3f:=eq_false_of_ne_true p3;by_cases p4:cP E s ⟨#[102,97,108,115,101]⟩=true
    ·rw[if_pos p4]at a;obtain⟨s1,e1,m1,i1,t1,o1,-⟩:=aT hE (mv0 hi) (eC p4);have j:=m1.inn hi;rw[e1]at a;subst a;refine aC Tryz.func158 rfl Tryz.ntmps158 (by simp) hμ l ?_;try repeat' (first|refine PBT ?_|refine PBF ?_|refine KO ?_|(refine CF 22 ?_;refine GP1 rfl (bK (by assumption) (hm.mono ML)) ?_;dsimp only[ca,na])|(refine CF 24 ?_;refine GP2 rfl (cS (by assumption) (hm.mono ML) _) ?_;dsimp only[ca,na])|(refine CF 42 ?_;refine GP1 rfl (bN (by assumption) (by assumption) (hm.mono ML)) ?_;dsimp only[ca,na])|refine KZ ?_|refine NB fun b=>?_)
     all_goals(apply aX c rfl;exact(RG 2 rfl rfl rfl rfl rfl);exact rfl;exact .refl _;exact fun μ' hle d=>KR.nil _ _ _)
    ·rw [if_neg p4]at a;have p4f:=eq_false_of_ne_true p4;by_cases p5:cP E s ⟨#[110,117,108,108]⟩=true
     ·rw[if_pos p5]at a;obtain⟨s1,e1,m1,i1,t1,o1,-⟩:=aT hE (mv0 hi) (eC p5);have j:=m1.inn hi;rw[e1]at a;subst a;refine aC Tryz.func158 rfl Tryz.ntmps158 (by simp) hμ l ?_;try repeat' (first|refine PBT ?_|refine PBF ?_|refine KO ?_|(refine CF 22 ?_;refine GP1 rfl (bK (by assumption) (hm.mono ML)) ?_;dsimp only[ca,na])|(refine CF 24 ?_;refine GP2 rfl (cS (by assumption) (hm.mono ML) _) ?_;dsimp only[ca,na])|(refine CF 42 ?_;refine GP1 rfl (bN (by assumption) (by assumption) (hm.mono ML)) ?_;dsimp only[ca,na])|refine KZ ?_|refine NB fun b=>?_)
      all_goals(apply aX c rfl;exact(RG 2 rfl rfl rfl rfl rfl);exact rfl;exact .refl _;exact fun μ' hle d=>KR.nil _ _ _)
     ·rw [if_neg p5]at a;have p5f:=eq_false_of_ne_true p5;by_cases p6:cP E s ⟨#[116,104,105,115]⟩=true
      ·rw[if_pos p6]at a;obtain⟨s1,e1,m1,i1,t1,o1,-⟩:=aT hE (mv0 hi) (eC p6);have j:=m1.inn hi;rw[e1]at a;subst a;refine aC Tryz.func158 rfl Tryz.ntmps158 (by simp) hμ l ?_;try repeat' (first|refine PBT ?_|refine PBF ?_|refine KO ?_|(refine CF 22 ?_;refine GP1 rfl (bK (by assumption) (hm.mono ML)) ?_;dsimp only[ca,na])|(refine CF 24 ?_;refine GP2 rfl (cS (by assumption) (hm.mono ML) _) ?_;dsimp only[ca,na])|(refine CF 42 ?_;refine GP1 rfl (bN (by assumption) (by assumption) (hm.mono ML)) ?_;dsimp only[ca,na])|refine KZ ?_|refine NB fun b=>?_)
       all_goals(apply aX c rfl;exact(RG 2 rfl rfl rfl rfl rfl);exact rfl;exact .refl _;exact fun μ' hle d=>KR.nil _ _ _)
      ·rw [if_neg p6]at a;have p6f:=eq_false_of_ne_true p6;by_cases p7:mL s (aJ E s)=true
       ·rw[if_pos p7]at a;obtain⟨s1,e1,m1,i1,t1,o1,-⟩:=aT hE (mv0 hi) (rI p7);have j:=m1.inn hi;rw[e1]at a;subst a;refine aC Tryz.func158 rfl Tryz.ntmps158 (by simp) hμ l ?_;try repeat' (first|refine PBT ?_|refine PBF ?_|refine KO ?_|(refine CF 22 ?_;refine GP1 rfl (bK (by assumption) (hm.mono ML)) ?_;dsimp only[ca,na])|(refine CF 24 ?_;refine GP2 rfl (cS (by assumption) (hm.mono ML) _) ?_;dsimp only[ca,na])|(refine CF 87 ?_;refine GP2 rfl (gF _) ?_;dsimp only[ca,na])|refine KZ ?_|refine NB fun b=>?_)
        refine aW 6 _ (by kernel_rfl) rfl (aG (aK (aG (aG aU)))) ?_;all_goals(refine DD 0 ?_;refine DD 1 ?_;refine DD 2 ?_;refine D3 3 ?_;refine D5 ?_;refine Y0 ?_;refine D9 ?_;refine DD 4 ?_;refine D3 5 ?_;refine D5 ?_;refine Y0 ?_;refine D9 ?_;refine D8 ?_)
        all_goals try repeat' (first|refine KO ?_|(refine CF 42 ?_;refine GP1 rfl (bN (by assumption) (by assumption) (hm.mono ML)) ?_;dsimp only[ca,na])|refine KZ ?_)
        all_goals(apply aX c rfl;exact(RG 2 rfl rfl rfl rfl rfl);exact rfl;exact .refl _;exact fun μ' hle d=>KR.nil _ _ _)
       ·rw [if_neg p7]at a;have p7f:=eq_false_of_ne_true p7;by_cases p8:cP E s ⟨#[102,117,110,99,116,105,111,110]⟩=true
        ·rw[if_pos p8]at a;have h1:=fun(μ9:Mem) (o:MLe μ μ9)=>AY hE hr hw h8 hi (hm.mono o) false (eC p8) (by omega);have m1:=(uB hE hr false hi (eC p8) (by omega)).mv;generalize kC E r false s=p9 at a h1 m1;obtain⟨x1,s1⟩:=p9;dsimp only at a h1 m1;have j:=m1.inn hi;have l1:=m1.le;have t1:=m1.lt;subst a;refine aC Tryz.func158 rfl Tryz.ntmps158 (by simp) hμ l ?_;try repeat' (first|refine PBT ?_|refine PBF ?_|refine KO ?_|(refine CF 22 ?_;refine GP1 rfl (bK (by assumption) (hm.mono ML)) ?_;dsimp only[ca,na])|(refine CF 24 ?_;refine GP2 rfl (cS (by assumption) (hm.mono ML) _) ?_;dsimp only[ca,na])|(refine CF 87 ?_;refine GP2 rfl (gF _) ?_;dsimp only[ca,na])|(refine CF 67 ?_;refine GR2 rfl (h1 _ ML) ?_;(rintro v1 μ1 g ⟨u1,rfl,h⟩;have o_u1:=h.one;have H1:MLe μ μ1:=MLe.trans ML g);dsimp only[ca,na])|refine KZ ?_|refine XS2 ?_|refine NB fun b=>?_)
         all_goals(apply aX c rfl;exact(RG 2 rfl rfl rfl rfl rfl);exact rfl;exact .refl _;exact fun μ' hle d=>h.mono hle)
        ·rw [if_neg p8]at a;have p8f:=eq_false_of_ne_true p8;by_cases p9:(aJ E s).k=6∧(aJ E s).n=0
         ·rw[if_pos p9]at a;obtain⟨p9_0,p9_1⟩:=id p9;have h1:=fun(μ9:Mem) (o:MLe μ μ9)=>LG hE hr hw hi (hm.mono o) (fun e=>by omega) (by omega);have m1:=(DE hE hr hi (fun e=>by omega) (by omega)).mv;generalize nK E r s=p9 at a h1 m1;obtain⟨x1,s1⟩:=p9;dsimp only at a h1 m1;have j:=m1.inn hi;have l1:=m1.le;have t1:=m1.lt;subst a;refine aC Tryz.func158 rfl Tryz.ntmps158 (by simp) hμ l ?_;try repeat' (first|refine PBF ?_|refine KO ?_|(refine CF 22 ?_;refine GP1 rfl (bK (by assumption) (hm.mono ML)) ?_;dsimp only[ca,na])|(refine CF 24 ?_;refine GP2 rfl (cS (by assumption) (hm.mono ML) _) ?_;dsimp only[ca,na])|(refine CF 87 ?_;refine GP2 rfl (gF _) ?_;dsimp only[ca,na])|(refine CF 165 ?_;refine GR1 rfl (h1 _ ML) ?_;(rintro v1 μ1 g ⟨u1,rfl,h⟩;have o_u1:=h.one;have H1:MLe μ μ1:=MLe.trans ML g);dsimp only[ca,na])|refine KZ ?_|refine XS2 ?_|refine NB fun b=>?_)
          all_goals(apply aX c rfl;exact(RG 2 rfl rfl rfl rfl rfl);exact rfl;exact .refl _;exact fun μ' hle d=>h.mono hle)
         ·rw[if_neg p9]at a;by_cases q1:isR E s ⟨#[40]⟩=true
          ·rw[if_pos q1]at a;have h1:=fun(μ9:Mem) (o:MLe μ μ9)=>LL hE hr hw h8 hi (hm.mono o) (cY q1) (by omega);have m1:=(FL hE hr hi (cY q1) (by omega)).mv;generalize nO E r s=p9 at a h1 m1;obtain⟨x1,s1⟩:=p9;dsimp only at a h1 m1;have j:=m1.inn hi;have l1:=m1.le;have t1:=m1.lt;subst a;refine aC Tryz.func158 rfl Tryz.ntmps158 (by simp) hμ l ?_;try repeat' (first|refine PBT ?_|refine PBF ?_|refine KO ?_|(refine CF 22 ?_;refine GP1 rfl (bK (by assumption) (hm.mono ML)) ?_;dsimp only[ca,na])|(refine CF 23 ?_;refine GP2 rfl (dD (by assumption) (hm.mono ML) _) ?_;dsimp only[ca,na])|(refine CF 24 ?_;refine GP2 rfl (cS (by assumption) (hm.mono ML) _) ?_;dsimp only[ca,na])|(refine CF 87 ?_;refine GP2 rfl (gF _) ?_;dsimp only[ca,na])|(refine CF 166 ?_;refine GR1 rfl (h1 _ ML) ?_;(rintro v1 μ1 g ⟨u1,rfl,h⟩;have o_u1:=h.one;have H1:MLe μ μ1:=MLe.trans ML g);dsimp only[ca,na])|refine KZ ?_|refine XS2 ?_|refine NB fun b=>?_|(refine KB ?_ ?_<;>intro hp))
           all_goals(apply aX c rfl;exact(RG 2 rfl rfl rfl rfl rfl);exact rfl;exact .refl _;exact fun μ' hle d=>h.mono hle)
          ·rw[if_neg q1]at a;have q1f:=eq_false_of_ne_true q1;by_cases q2:(isR E s ⟨#[91]⟩||isR E s ⟨#[123]⟩)=true
           ·rw[if_pos q2]at a;have h1:=fun(μ9:Mem) (o:MLe μ μ9)=>OX hE hr hw h8 hi (hm.mono o) (by simpa using q2) (by omega);have m1:=(HP hE hr hi (by simpa using q2) (by omega)).mv;generalize pG E r s=p9 at a h1 m1;obtain⟨x1,s1⟩:=p9;dsimp only at a h1 m1;have j:=m1.inn hi;have l1:=m1.le;have t1:=m1.lt;subst a;refine aC Tryz.func158 rfl Tryz.ntmps158 (by simp) hμ l ?_;try repeat' (first|refine PBT ?_|refine PBF ?_|refine KO ?_|(refine CF 22 ?_;refine GP1 rfl (bK (by assumption) (hm.mono ML)) ?_;dsimp only[ca,na])|(refine CF 23 ?_;refine GP2 rfl (dD (by assumption) (hm.mono ML) _) ?_;dsimp only[ca,na])|(refine CF 24 ?_;refine GP2 rfl (cS (by assumption) (hm.mono ML) _) ?_;dsimp only[ca,na])|(refine CF 87 ?_;refine GP2 rfl (gF _) ?_;dsimp only[ca,na])|(refine CF 167 ?_;refine GR1 rfl (h1 _ ML) ?_;(rintro v1 μ1 g ⟨u1,rfl,h⟩;have o_u1:=h.one;have H1:MLe μ μ1:=MLe.trans ML g);dsimp only[ca,na])|refine KZ ?_|refine XS2 ?_|refine NB fun b=>?_|(refine KB ?_ ?_<;>intro hp))
            all_goals try(exfalso;(simp_all;done))
            all_goals(apply aX c rfl;exact(RG 2 rfl rfl rfl rfl rfl);exact rfl;exact .refl _;exact fun μ' hle d=>h.mono hle)
           ·rw[if_neg q2]at a;have q2f:=eq_false_of_ne_true q2;obtain⟨s1,e1,m1,l1,t1,o1⟩:=kV hE (mv0 hi);have j:=m1.inn hi;rw[e1]at a;subst a;refine aC Tryz.func158 rfl Tryz.ntmps158 (by simp) hμ l ?_;try repeat' (first|refine PBT ?_|refine PBF ?_|refine KO ?_|(refine CF 22 ?_;refine GP1 rfl (bK (by assumption) (hm.mono ML)) ?_;dsimp only[ca,na])|(refine CF 23 ?_;refine GP2 rfl (dD (by assumption) (hm.mono ML) _) ?_;dsimp only[ca,na])|(refine CF 24 ?_;refine GP2 rfl (cS (by assumption) (hm.mono ML) _) ?_;dsimp only[ca,na])|(refine CF 26 ?_;refine GU1 rfl (lY (by assumption) (by assumption) (hm.mono ML)) ?_;intro v9;dsimp only[ca,na])|(refine CF 87 ?_;refine GP2 rfl (gF _) ?_;dsimp only[ca,na])|refine KZ ?_|refine NB fun b=>?_|(refine KB ?_ ?_<;>intro hp))
            all_goals try(exfalso;(simp_all;done))
            all_goals(apply aX c rfl;exact(RG 2 rfl rfl rfl rfl rfl);exact rfl;exact .refl _;exact fun μ' hle d=>KR.nil _ _ _)
end
end
section
open Go.RowKit Go.Vcg
theorem QL.lt{src:ByteArray}{t t' :T}{s s' :RdS}(h:QL src t s t' s'):s.i+1≤s'.i:=by
 obtain⟨o,x,rest,rfl,-,h⟩:=h;rw[kE,cX]at h;split at h<;>omega
section
variable{E:TkE}{src:ByteArray}{n:Nat}{r:RdR}{s:RdS}(hE:TOk E src)(hr:nB E src n r)(hi:In E src s)
include hE hi
theorem yV(t:T)(hk:(aJ E s).k≠0):PA E src s (fun _ s' =>s.i+1≤s'.i) (mJ E t (bJ E s)):=by
 obtain⟨s1,e1,m1,i1,t1,o1,-⟩:=aT hE (mv0 hi) hk;rw[e1];have h:=(wT hE t (m1.inn hi)).mv;exact⟨m1.trans h,fun _=>by have:=h.le;omega⟩
end
end
section
open Go.RowKit Go.Vcg
attribute [local irreducible] jE G GC GQ GA dV Calls IntKind.wrap Int.decLt Int.decLe
section
variable{E:TkE}{src:ByteArray}{V:RPl}{xb n:Nat}{r:RdR}{s:RdS}{μ:Mem}(hE:TOk E src)(hr:nB E src n r)(hw:rO E src V xb n r)(h8:∀b s,(r.stm b s).1.op=8→(r.stm b s).1.kids≠[])(hi:In E src s)(hm:RM E V μ)
include hE hr hw h8 hi hm
theorem XZ(hn:8*(E.ts.length-s.i)+2≤n):zCR E V xb 146 [.pointer (some ⟨xb,0,none⟩)] s (wB E r s).2 μ (fun μ' v=>TV μ' (wB E r s).1 v):=by
 intro w hμ hO;have af:=bF hO.diff;have hl:=hi.lt;generalize hq:wB E r s=q;unfold wB bd at hq;dsimp only at hq;obtain⟨p9,aa⟩:∃p,(if cP E s ⟨#[110,101,119]⟩=true then r.fre s else lQ E r s)=p:=⟨_,rfl⟩;rw[aa]at hq;have m1:Mv E (src.size:Int) s p9.2:=by
  rw[←aa];split
  ·rename_i h;exact(hr.fre s hi (by omega) (eC h)).mv
  ·exact(wP hE hr hi (by omega)).mv
 obtain⟨x1,s1⟩:=p9;dsimp only at hq m1;have al:=m1.inn hi;have l1:=m1.le;have t1:=m1.lt;generalize hQ:lI E r (E.ts.length+1) x1 false s1=Q at hq;refine aC Tryz.func146 rfl Tryz.ntmps146 (by simp) hμ hO ?_;try repeat' (first|((with_reducible show GC _ _ (Code.seq (Code.seq (Code.region 2 _ _) _) _) _ _ _ _);(apply dE))|refine KZ ?_|refine NB fun b=>?_)
 rename_i b2;refine fK (ι:=Mem×Value) (fun q=>MLe μ q.1∧KR q.1 x1.kids q.2) (fun q=>q.1) (fun _=>[(0,.pointer (some ⟨xb,0,none⟩)),(2,.pointer (some ⟨b2,0,none⟩)),(3,.pointer (some ⟨b,0,none⟩))]) (fun q=>[.inl ⟨b,25,6,idx 0 (dG x1 q.2)⟩,.inl ⟨b2,25,6,[]⟩,RB E V xb s1]) ?_ ?_
 ·cases ah:cP E s ⟨#[110,101,119]⟩with
   | true=>
     rw[if_pos ah]at aa;have ag:=fun(μ9:Mem) (z:MLe μ μ9)=>hw.fre s μ9 hi (by omega) (eC ah) (hm.mono z);rw[aa]at ag;try repeat' (first|refine PBT ?_|refine KO ?_|(refine CF 24 ?_;refine GP2 rfl (cS (by assumption) (hm.mono ML) _) ?_;dsimp only[ca,na])|refine XS0 ?_|(refine CF 157 ?_;refine GR1 rfl (ag _ ML) ?_;(rintro v1 μ1 ad ⟨u1,rfl,ab⟩;have o_u1:=ab.one;have H1:MLe μ μ1:=MLe.trans ML ad);dsimp only[ca,na]))
     all_goals refine J1 (μ1,u1) ⟨by assumption,by assumption⟩
   | false=>
     rw[if_neg (by rw[ah];decide)]at aa;have ag:=fun(μ9:Mem) (z:MLe μ μ9)=>DP hE hr hw h8 hi (hm.mono z) (by omega);rw[aa]at ag;try repeat' (first|refine PBF ?_|refine KO ?_|(refine CF 24 ?_;refine GP2 rfl (cS (by assumption) (hm.mono ML) _) ?_;dsimp only[ca,na])|refine XS0 ?_|(refine CF 158 ?_;refine GR1 rfl (ag _ ML) ?_;(rintro v1 μ1 ad ⟨u1,rfl,ab⟩;have o_u1:=ab.one;have H1:MLe μ μ1:=MLe.trans ML ad);dsimp only[ca,na]))
     all_goals refine J1 (μ1,u1) ⟨by assumption,by assumption⟩
 rintro⟨μ1,u1⟩ ⟨H1,ab⟩;dsimp only at H1 ab⊢;try repeat' (refine KO ?_)
 refine dH (ι:=Nat×T×Value×Bool×RdS×Mem) (fun i=>MLe μ i.2.2.2.2.2∧KR i.2.2.2.2.2 i.2.1.kids i.2.2.1∧In E src i.2.2.2.2.1∧(i.2.2.2.2.1.e=0→E.ts.length-i.2.2.2.2.1.i<i.1)∧s.i≤i.2.2.2.2.1.i∧Q=lI E r i.1 i.2.1 i.2.2.2.1 i.2.2.2.2.1)
  (fun i=>i.1) (fun i=>i.2.2.2.2.2) (fun i=>[(0,.pointer (some ⟨xb,0,none⟩)),(2,.pointer (some ⟨b2,0,none⟩)),(3,.pointer (some ⟨b,0,none⟩)),(4,.bool i.2.2.2.1)]) (fun i=>[.inl ⟨b,25,6,idx 0 (dG i.2.1 i.2.2.1)⟩,.inl ⟨b2,25,6,[]⟩,RB E V xb i.2.2.2.2.1])
  (E.ts.length+1,x1,u1,false,s1,μ1) ⟨H1,ab,al,fun e=>by dsimp only;omega,l1,hQ.symm⟩ (fun a w hs=>J5 hs) ?_
 rintro⟨f,x2,u2,o,s2,μ2⟩ ⟨H2,c,j,hf,ak,hJ⟩;dsimp only at H2 c j hf ak hJ⊢;have t2:=j.lt;have o_u2:=c.one;by_cases he:s2.e=0
 ·obtain⟨f,rfl⟩:∃g,f=g+1:=⟨f-1,by have:=hf he;omega⟩;have hf:=hf he;rw[lI,if_neg (fun h=>h he)]at hJ;unfold bd at hJ;dsimp only at hJ;by_cases c1:isR E s2 ⟨#[46]⟩=true
  ·rw[if_pos c1]at hJ;have p8:=fun e=>(yV hE j x2 (cY c1)).ok e;have h3:=fun(μ9:Mem) (z:MLe μ μ9)=>fun(u9:Value) (k9:KR μ9 (T.kids x2) u9)=>HG (xb:=xb) j (hm.mono z) x2 u9 k9;have m3:=(yV hE j x2 (cY c1)).mv;generalize mJ E x2 (bJ E s2)=p9 at hJ h3 m3 p8;obtain⟨x3,s3⟩:=p9;dsimp only at hJ h3 m3 p8;have d:=m3.inn j;have l3:=m3.le;have t3:=m3.lt;try repeat' (first|refine PBT ?_|refine KO ?_|(refine CF 22 ?_;refine GP1 rfl (bK (by assumption) (hm.mono ML)) ?_;dsimp only[ca,na])|(refine CF 23 ?_;refine GP2 rfl (dD (by assumption) (hm.mono ML) _) ?_;dsimp only[ca,na])|(refine CF 159 ?_;refine GR2 rfl (h3 _ ML _ c) ?_;(rintro v3 μ3 u ⟨u3,rfl,y⟩;have o_u3:=y.one;have H3:MLe μ μ3:=MLe.trans ML u;have c:=c.mono u);dsimp only[ca,na])|refine KZ ?_|refine XS1 ?_|refine NB fun b=>?_)
   all_goals refine J2 (f,x3,u3,o,s3,μ3) ⟨ML,y,d,fun e=>by dsimp only at e⊢;omega,by dsimp only;omega,hJ⟩ (by dsimp only;omega)
  ·rw [if_neg c1]at hJ;have c1f:=eq_false_of_ne_true c1;by_cases c2:isR E s2 ⟨#[91]⟩=true
   ·rw[if_pos c2]at hJ;have p8:=fun e=>((qB hE hr x2 j (cY c2) (by omega)).ok e).lt;have h3:=fun(μ9:Mem) (z:MLe μ μ9)=>fun(u9:Value) (k9:KR μ9 (T.kids x2) u9)=>DR hE hr hw j (hm.mono z) x2 u9 k9 (cY c2) (by omega);have m3:=(qB hE hr x2 j (cY c2) (by omega)).mv;generalize nX E r x2 s2=p9 at hJ h3 m3 p8;obtain⟨x3,s3⟩:=p9;dsimp only at hJ h3 m3 p8;have d:=m3.inn j;have l3:=m3.le;have t3:=m3.lt;try repeat' (first|refine PBT ?_|refine PBF ?_|refine KO ?_|(refine CF 22 ?_;refine GP1 rfl (bK (by assumption) (hm.mono ML)) ?_;dsimp only[ca,na])|(refine CF 23 ?_;refine GP2 rfl (dD (by assumption) (hm.mono ML) _) ?_;dsimp only[ca,na])|(refine CF 160 ?_;refine GR2 rfl (h3 _ ML _ c) ?_;(rintro v3 μ3 u ⟨u3,rfl,y⟩;have o_u3:=y.one;have H3:MLe μ μ3:=MLe.trans ML u;have c:=c.mono u);dsimp only[ca,na])|refine KZ ?_|refine XS1 ?_|refine NB fun b=>?_)
    all_goals refine J2 (f,x3,u3,o,s3,μ3) ⟨ML,y,d,fun e=>by dsimp only at e⊢;omega,by dsimp only;omega,hJ⟩ (by dsimp only;omega)
   ·rw [if_neg c2]at hJ;have c2f:=eq_false_of_ne_true c2;by_cases c3:isR E s2 ⟨#[40]⟩=true
    ·rw[if_pos c3]at hJ;have p8:=fun e=>((AK hE hr x2 j (by omega)).ok e).lt;have h3:=fun(μ9:Mem) (z:MLe μ μ9)=>fun(u9:Value) (k9:KR μ9 (T.kids x2) u9)=>SC hE hr hw j (hm.mono z) x2 u9 k9 (by omega);have m3:=(AK hE hr x2 j (by omega)).mv;generalize wD E r x2 s2=p9 at hJ h3 m3 p8;obtain⟨x3,s3⟩:=p9;dsimp only at hJ h3 m3 p8;have d:=m3.inn j;have l3:=m3.le;have t3:=m3.lt;try repeat' (first|refine PBT ?_|refine PBF ?_|refine KO ?_|(refine CF 22 ?_;refine GP1 rfl (bK (by assumption) (hm.mono ML)) ?_;dsimp only[ca,na])|(refine CF 23 ?_;refine GP2 rfl (dD (by assumption) (hm.mono ML) _) ?_;dsimp only[ca,na])|(refine CF 161 ?_;refine GR2 rfl (h3 _ ML _ c) ?_;(rintro v3 μ3 u ⟨u3,rfl,y⟩;have o_u3:=y.one;have H3:MLe μ μ3:=MLe.trans ML u;have c:=c.mono u);dsimp only[ca,na])|refine KZ ?_|refine XS1 ?_|refine NB fun b=>?_)
     all_goals refine J2 (f,x3,u3,o,s3,μ3) ⟨ML,y,d,fun e=>by dsimp only at e⊢;omega,by dsimp only;omega,hJ⟩ (by dsimp only;omega)
    ·rw [if_neg c3]at hJ;have c3f:=eq_false_of_ne_true c3;by_cases c4:isR E s2 ⟨#[63,46]⟩=true
     ·rw[if_pos c4]at hJ;obtain⟨s3,e3,m3,i3,t3,o3,-⟩:=aT hE (mv0 j) (cY c4);have d:=m3.inn j;rw[e3]at hJ;by_cases d1:isR E s3 ⟨#[91]⟩=true
      ·rw[if_pos d1]at hJ;have p8:=fun e=>((qB hE hr x2 d (cY d1) (by omega)).ok e).lt;have h4:=fun(μ9:Mem) (z:MLe μ μ9)=>fun(u9:Value) (k9:KR μ9 (T.kids x2) u9)=>DR hE hr hw d (hm.mono z) x2 u9 k9 (cY d1) (by omega);have m4:=(qB hE hr x2 d (cY d1) (by omega)).mv;generalize nX E r x2 s3=p9 at hJ h4 m4 p8;obtain⟨x4,s4⟩:=p9;dsimp only at hJ h4 m4 p8;have ae:=m4.inn d;have l4:=m4.le;have t4:=m4.lt;try repeat' (first|refine PBT ?_|refine PBF ?_|refine KO ?_|(refine CF 22 ?_;refine GP1 rfl (bK (by assumption) (hm.mono ML)) ?_;dsimp only[ca,na])|(refine CF 23 ?_;refine GP2 rfl (dD (by assumption) (hm.mono ML) _) ?_;dsimp only[ca,na])|(refine CF 42 ?_;refine GP1 rfl (bN (by assumption) (by assumption) (hm.mono ML)) ?_;dsimp only[ca,na])|(refine CF 160 ?_;refine GR2 rfl (h4 _ ML _ c) ?_;(rintro v4 μ4 l ⟨u4,rfl,x⟩;have o_u4:=x.one;have H4:MLe μ μ4:=MLe.trans ML l;have c:=c.mono l);dsimp only[ca,na])|refine KZ ?_|refine XS1 ?_|refine NB fun b=>?_)
       all_goals refine J2 (f,GP x4,u4,true,s4,μ4) ⟨ML,x,ae,fun e=>by dsimp only at e⊢;omega,by dsimp only;omega,hJ⟩ (by dsimp only;omega)
      ·rw[if_neg d1]at hJ;have d1f:=eq_false_of_ne_true d1;by_cases d2:isR E s3 ⟨#[40]⟩=true
       ·rw[if_pos d2]at hJ;have p8:=fun e=>((AK hE hr x2 d (by omega)).ok e).lt;have h4:=fun(μ9:Mem) (z:MLe μ μ9)=>fun(u9:Value) (k9:KR μ9 (T.kids x2) u9)=>SC hE hr hw d (hm.mono z) x2 u9 k9 (by omega);have m4:=(AK hE hr x2 d (by omega)).mv;generalize wD E r x2 s3=p9 at hJ h4 m4 p8;obtain⟨x4,s4⟩:=p9;dsimp only at hJ h4 m4 p8;have ae:=m4.inn d;have l4:=m4.le;have t4:=m4.lt;try repeat' (first|refine PBT ?_|refine PBF ?_|refine KO ?_|(refine CF 22 ?_;refine GP1 rfl (bK (by assumption) (hm.mono ML)) ?_;dsimp only[ca,na])|(refine CF 23 ?_;refine GP2 rfl (dD (by assumption) (hm.mono ML) _) ?_;dsimp only[ca,na])|(refine CF 42 ?_;refine GP1 rfl (bN (by assumption) (by assumption) (hm.mono ML)) ?_;dsimp only[ca,na])|(refine CF 161 ?_;refine GR2 rfl (h4 _ ML _ c) ?_;(rintro v4 μ4 l ⟨u4,rfl,x⟩;have o_u4:=x.one;have H4:MLe μ μ4:=MLe.trans ML l;have c:=c.mono l);dsimp only[ca,na])|refine KZ ?_|refine XS1 ?_|refine NB fun b=>?_)
        all_goals refine J2 (f,GP x4,u4,true,s4,μ4) ⟨ML,x,ae,fun e=>by dsimp only at e⊢;omega,by dsimp only;omega,hJ⟩ (by dsimp only;omega)
       ·rw[if_neg d2]at hJ;have d2f:=eq_false_of_ne_true d2;have p8:=fun e=>((wT hE x2 d).ok e).lt;have h4:=fun(μ9:Mem) (z:MLe μ μ9)=>fun(u9:Value) (k9:KR μ9 (T.kids x2) u9)=>LJ (xb:=xb) d (hm.mono z) x2 u9 k9;have m4:=(wT hE x2 d).mv;generalize mJ E x2 s3=p9 at hJ h4 m4 p8;obtain⟨x4,s4⟩:=p9;dsimp only at hJ h4 m4 p8;have ae:=m4.inn d;have l4:=m4.le;have t4:=m4.lt;try repeat' (first|refine PBT ?_|refine PBF ?_|refine KO ?_|(refine CF 22 ?_;refine GP1 rfl (bK (by assumption) (hm.mono ML)) ?_;dsimp only[ca,na])|(refine CF 23 ?_;refine GP2 rfl (dD (by assumption) (hm.mono ML) _) ?_;dsimp only[ca,na])|(refine CF 42 ?_;refine GP1 rfl (bN (by assumption) (by assumption) (hm.mono ML)) ?_;dsimp only[ca,na])|(refine CF 162 ?_;refine GR2 rfl (h4 _ ML _ c) ?_;(rintro v4 μ4 l ⟨u4,rfl,x⟩;have o_u4:=x.one;have H4:MLe μ μ4:=MLe.trans ML l;have c:=c.mono l);dsimp only[ca,na])|refine KZ ?_|refine XS1 ?_|refine NB fun b=>?_)
        all_goals refine J2 (f,GP x4,u4,true,s4,μ4) ⟨ML,x,ae,fun e=>by dsimp only at e⊢;omega,by dsimp only;omega,hJ⟩ (by dsimp only;omega)
     ·rw[if_neg c4]at hJ;have c4f:=eq_false_of_ne_true c4;by_cases c5:(aJ E s2).k=6∧(aJ E s2).n=0
      ·rw[if_pos c5]at hJ;obtain⟨c5_0,c5_1⟩:=id c5;obtain⟨s3,e3,m3,l3,t3,o3⟩:=kV hE (mv0 j);have d:=m3.inn j;rw[e3]at hJ;replace hJ:Q=lI E r f x2 o s3:=by
        rw[hJ];cases f with
        |zero=>rfl
        |succ f=>rw[lI,if_pos o3]
       try repeat' (first|refine PBF ?_|refine KO ?_|(refine CF 22 ?_;refine GP1 rfl (bK (by assumption) (hm.mono ML)) ?_;dsimp only[ca,na])|(refine CF 23 ?_;refine GP2 rfl (dD (by assumption) (hm.mono ML) _) ?_;dsimp only[ca,na])|(refine CF 26 ?_;refine GU1 rfl (lY (by assumption) (by assumption) (hm.mono ML)) ?_;intro v9;dsimp only[ca,na])|refine KZ ?_|refine NB fun b=>?_)
       all_goals refine J2 (f,x2,u2,o,s3,μ2) ⟨ML,c,d,fun e=>by dsimp only at e⊢;omega,by dsimp only;omega,hJ⟩ (by dsimp only;omega)
      ·rw[if_neg c5]at hJ;cases o
       ·rw[if_neg (by decide)]at hJ;subst hJ hq;try repeat' (first|refine PBF ?_|refine KO ?_|(refine CF 22 ?_;refine GP1 rfl (bK (by assumption) (hm.mono ML)) ?_;dsimp only[ca,na])|(refine CF 23 ?_;refine GP2 rfl (dD (by assumption) (hm.mono ML) _) ?_;dsimp only[ca,na])|refine KZ ?_|refine XS2 ?_|refine NB fun b=>?_|(refine KB ?_ ?_<;>intro hp))
        all_goals(apply aX af rfl;exact(RG 2 rfl rfl rfl rfl rfl);exact rfl;exact .refl _;exact fun μ' hle ai=>c.mono hle)
       ·rw[if_pos rfl]at hJ;subst hJ hq;try repeat' (first|refine PBF ?_|refine KO ?_|(refine CF 22 ?_;refine GP1 rfl (bK (by assumption) (hm.mono ML)) ?_;dsimp only[ca,na])|(refine CF 23 ?_;refine GP2 rfl (dD (by assumption) (hm.mono ML) _) ?_;dsimp only[ca,na])|refine KZ ?_|refine NB fun b=>?_|(refine KB ?_ ?_<;>intro hp))
        all_goals(apply aX af rfl;exact(RG 3 rfl rfl rfl rfl rfl);exact rfl;exact .refl _;exact fun μ' hle ai=>KR.eT [(x2,u2)] (ai _ (by exact(aA))) rfl (by repeat first|exact bH|refine bA rfl ?_) (Kids.cons (c.mono hle) (Kids.nil _)))
 ·have aj:lI E r f x2 o s2=(x2,s2):=by
   cases f with
   |zero=>rfl
   |succ f=>rw[lI,if_pos he]
  rw[aj]at hJ;subst hJ hq;try repeat' (first|refine KZ ?_|refine XS1 ?_)
  all_goals(apply aX af rfl;exact(RG 1 rfl rfl rfl rfl rfl);exact rfl;exact .refl _;exact fun μ' hle ai=>c.mono hle)
theorem XV(aq:(aJ E s).k≠0)(hn:8*(E.ts.length-s.i)≤n+2):zCR E V xb 157 [.pointer (some ⟨xb,0,none⟩)] s (yB E r s).2 μ (fun μ' v=>TV μ' (yB E r s).1 v):=by
 intro w hμ hO;have y:=bF hO.diff;have hl:=hi.lt;have au:=hm.few;generalize o:yB E r s=q;unfold yB bd at o;dsimp only at o;obtain⟨s1,e1,m1,i1,t1,o1,-⟩:=aT hE (mv0 hi) aq;have ag:=m1.inn hi;rw[e1]at o;obtain⟨p9,ae⟩:∃p,(if cP E s1 ⟨#[110,101,119]⟩=true then r.fre s1 else lQ E r s1)=p:=⟨_,rfl⟩;rw[ae]at o;have m2:Mv E (src.size:Int) s1 p9.2:=by
  rw[←ae];split
  ·rename_i h;exact(hr.fre s1 ag (by omega) (eC h)).mv
  ·exact(wP hE hr ag (by omega)).mv
 obtain⟨x1,s2⟩:=p9;dsimp only at o m2;have ar:=m2.inn ag;have l2:=m2.le;have t2:=m2.lt;generalize hQ:pU E r (E.ts.length+1) x1 s2=Q at o;refine aC Tryz.func157 rfl Tryz.ntmps157 (by simp) hμ hO ?_;try repeat' (first|((with_reducible show GC _ _ (Code.seq (Code.seq (Code.region 3 _ _) _) _) _ _ _ _);(apply dE))|refine KO ?_|(refine CF 42 ?_;refine GP1 rfl (bN (by assumption) (by assumption) (hm.mono ML)) ?_;dsimp only[ca,na])|refine KZ ?_|refine NB fun b=>?_)
 rename_i b2 b3;refine fK (ι:=Mem×Value) (fun q=>MLe μ q.1∧KR q.1 x1.kids q.2) (fun q=>q.1) (fun _=>[(0,.pointer (some ⟨xb,0,none⟩)),(2,.pointer (some ⟨b2,0,none⟩)),(3,.pointer (some ⟨b3,0,none⟩)),(4,.pointer (some ⟨b,0,none⟩))]) (fun q=>[.inl ⟨b,25,6,idx 0 (dG x1 q.2)⟩,.inl ⟨b3,25,6,idx 0 (dG (nd 50 (aJ E s).at' []) (.slice none 0 0))⟩,.inl ⟨b2,25,6,[]⟩,RB E V xb s2]) ?_ ?_
 ·cases aj:cP E s1 ⟨#[110,101,119]⟩with
   | true=>
     rw[if_pos aj]at ae;have ai:=fun(μ9:Mem) (h9:MLe μ μ9)=>hw.fre s1 μ9 ag (by omega) (eC aj) (hm.mono h9);rw[ae]at ai;try repeat' (first|refine PBT ?_|refine KO ?_|(refine CF 24 ?_;refine GP2 rfl (cS (by assumption) (hm.mono ML) _) ?_;dsimp only[ca,na])|refine XS0 ?_|(refine CF 157 ?_;refine GR1 rfl (ai _ ML) ?_;(rintro v2 μ2 af ⟨u2,rfl,d⟩;have o_u2:=d.one;have H2:MLe μ μ2:=MLe.trans ML af);dsimp only[ca,na]))
     all_goals refine J1 (μ2,u2) ⟨by assumption,by assumption⟩
   | false=>
     rw[if_neg (by rw[aj];decide)]at ae;have ai:=fun(μ9:Mem) (h9:MLe μ μ9)=>DP hE hr hw h8 ag (hm.mono h9) (by omega);rw[ae]at ai;try repeat' (first|refine PBF ?_|refine KO ?_|(refine CF 24 ?_;refine GP2 rfl (cS (by assumption) (hm.mono ML) _) ?_;dsimp only[ca,na])|refine XS0 ?_|(refine CF 158 ?_;refine GR1 rfl (ai _ ML) ?_;(rintro v2 μ2 af ⟨u2,rfl,d⟩;have o_u2:=d.one;have H2:MLe μ μ2:=MLe.trans ML af);dsimp only[ca,na]))
     all_goals refine J1 (μ2,u2) ⟨by assumption,by assumption⟩
 rintro⟨μ1,u1⟩ ⟨H1,an⟩;dsimp only at H1 an⊢;try repeat' (refine KO ?_)
 refine dH (ι:=Nat×T×Value×RdS×Mem) (fun i=>MLe μ i.2.2.2.2∧KR i.2.2.2.2 i.2.1.kids i.2.2.1∧In E src i.2.2.2.1∧(i.2.2.2.1.e=0→E.ts.length-i.2.2.2.1.i<i.1)∧s1.i≤i.2.2.2.1.i∧Q=pU E r i.1 i.2.1 i.2.2.2.1)
  (fun i=>i.1) (fun i=>i.2.2.2.2) (fun i=>[(0,.pointer (some ⟨xb,0,none⟩)),(2,.pointer (some ⟨b2,0,none⟩)),(3,.pointer (some ⟨b3,0,none⟩)),(4,.pointer (some ⟨b,0,none⟩))]) (fun i=>[.inl ⟨b,25,6,idx 0 (dG i.2.1 i.2.2.1)⟩,.inl ⟨b3,25,6,idx 0 (dG (nd 50 (aJ E s).at' []) (.slice none 0 0))⟩,.inl ⟨b2,25,6,[]⟩,RB E V xb i.2.2.2.1])
  (E.ts.length+1,x1,u1,s2,μ1) ⟨H1,an,ar,fun e=>by dsimp only;omega,l2,hQ.symm⟩ (fun a w hs=>J5 hs) ?_
 rintro⟨f,x2,u2,s3,μ2⟩ ⟨H2,d,j,hf,ap,hJ⟩;dsimp only at H2 d j hf ap hJ⊢;have t3:=j.lt;have o_u2:=d.one;by_cases hc:s3.e=0∧(isR E s3 ⟨#[46]⟩||isR E s3 ⟨#[91]⟩)=true
 ·obtain⟨f,rfl⟩:∃g,f=g+1:=⟨f-1,by have:=hf hc.1;omega⟩;have hf:=hf hc.1;have he:=hc.1;rw[pU,if_pos hc]at hJ;unfold bd at hJ;dsimp only at hJ;by_cases c1:isR E s3 ⟨#[46]⟩=true
  ·rw[if_pos c1]at hJ;have p8:=fun e=>(yV hE j x2 (cY c1)).ok e;have h4:=fun(μ9:Mem) (h9:MLe μ μ9)=>fun(u9:Value) (k9:KR μ9 (T.kids x2) u9)=>HG (xb:=xb) j (hm.mono h9) x2 u9 k9;have m4:=(yV hE j x2 (cY c1)).mv;generalize mJ E x2 (bJ E s3)=p9 at hJ h4 m4 p8;obtain⟨x4,s4⟩:=p9;dsimp only at hJ h4 m4 p8;have ab:=m4.inn j;have l4:=m4.le;have t4:=m4.lt;try repeat' (first|refine PBT ?_|refine KO ?_|(refine CF 23 ?_;refine GP2 rfl (dD (by assumption) (hm.mono ML) _) ?_;dsimp only[ca,na])|(refine CF 159 ?_;refine GR2 rfl (h4 _ ML _ d) ?_;(rintro v4 μ4 c ⟨u4,rfl,u⟩;have o_u4:=u.one;have H4:MLe μ μ4:=MLe.trans ML c;have d:=d.mono c);dsimp only[ca,na])|refine KZ ?_|refine XS0 ?_)
   all_goals refine J2 (f,x4,u4,s4,μ4) ⟨ML,u,ab,fun e=>by dsimp only at e⊢;omega,by dsimp only;omega,hJ⟩ (by dsimp only;omega)
  ·rw[if_neg c1]at hJ;have c1f:=eq_false_of_ne_true c1;have c2:isR E s3 ⟨#[91]⟩=true:=by have h9:=hc.2;simpa[c1]using h9
   have p8:=fun e=>((qB hE hr x2 j (cY c2) (by omega)).ok e).lt;have h4:=fun(μ9:Mem) (h9:MLe μ μ9)=>fun(u9:Value) (k9:KR μ9 (T.kids x2) u9)=>DR hE hr hw j (hm.mono h9) x2 u9 k9 (cY c2) (by omega);have m4:=(qB hE hr x2 j (cY c2) (by omega)).mv;generalize nX E r x2 s3=p9 at hJ h4 m4 p8;obtain⟨x4,s4⟩:=p9;dsimp only at hJ h4 m4 p8;have ab:=m4.inn j;have l4:=m4.le;have t4:=m4.lt;try repeat' (first|refine PBT ?_|refine PBF ?_|refine KO ?_|(refine CF 23 ?_;refine GP2 rfl (dD (by assumption) (hm.mono ML) _) ?_;dsimp only[ca,na])|(refine CF 160 ?_;refine GR2 rfl (h4 _ ML _ d) ?_;(rintro v4 μ4 c ⟨u4,rfl,u⟩;have o_u4:=u.one;have H4:MLe μ μ4:=MLe.trans ML c;have d:=d.mono c);dsimp only[ca,na])|refine KZ ?_|refine XS0 ?_)
   all_goals refine J2 (f,x4,u4,s4,μ4) ⟨ML,u,ab,fun e=>by dsimp only at e⊢;omega,by dsimp only;omega,hJ⟩ (by dsimp only;omega)
 ·have ao:pU E r f x2 s3=(x2,s3):=by
   cases f with
   |zero=>rfl
   |succ f=>rw[pU,if_neg hc]
  rw[ao]at hJ;subst hJ;try dsimp only at o
  by_cases he:s3.e=0
  ·obtain⟨aw,av⟩:isR E s3 ⟨#[46]⟩=false∧isR E s3 ⟨#[91]⟩=false:=by simpa[he]using hc
   by_cases c5:isR E s3 ⟨#[40]⟩=true
   ·rw[if_pos c5]at o;have g9:=AL E r s3;have h4:=fun(μ9:Mem) (h9:MLe μ μ9)=>IY hE hr hw j (hm.mono h9) (by omega);have m4:=(FQ hE hr j (by omega)).mv;generalize tD E r s3=p9 at o h4 m4 g9;obtain⟨y4,s4⟩:=p9;dsimp only at o h4 m4 g9;have ab:=m4.inn j;have l4:=m4.le;have t4:=m4.lt;subst o;try repeat' (first|refine PBT ?_|refine PBF ?_|refine KO ?_|(refine CF 22 ?_;refine GP1 rfl (bK (by assumption) (hm.mono ML)) ?_;dsimp only[ca,na])|(refine CF 23 ?_;refine GP2 rfl (dD (by assumption) (hm.mono ML) _) ?_;dsimp only[ca,na])|refine KZ ?_|refine NB fun b=>?_)
    refine aW 7 _ (by kernel_rfl) rfl (aG (aK (aK (aG (aK (aG aU)))))) ?_;all_goals(refine DD 0 ?_;refine DD 2 ?_)
    refine dS 1 3 (by kernel_rfl) ?dr1_1 ?dr1_3
    case' dr1_1=>
     (((with_reducible apply bS);(iterate 4 exact rfl);(((with_reducible apply gT);exact rfl;(repeat first|with_reducible exact bT|with_reducible apply cG);exact rfl))))
     all_goals(refine D3 3 ?_;refine D5 ?_;(refine CF 164 ?_;refine GR1 rfl (h4 _ ML) ?_;(rintro v4 μ4 c u;obtain⟨A1,c1,ps,rfl,ad,aa,hS,l⟩:=u.sl;have ak:=Kids.one l;have al:=fP kD ps;have ah:=hS.1;have H4:MLe μ μ4:=MLe.trans ML c;have d:=d.mono c);dsimp only[ca,na]);refine D9 ?_)
     all_goals(refine D3 4 ?_;refine D5 ?_;(((refine oO 1 6 rfl rfl (by decide) ?_);(with_reducible apply pJ);(iterate 3 exact rfl);(repeat with_reducible exact eO);(iterate 6 exact rfl);(((with_reducible apply tM);exact rfl;exact hS;exact fun _ _=>rfl));omega;(assumption);omega;omega;intro v;  (refine bB 0 rfl ?_);rintro A2 c2 rfl z));refine D9 ?_)
     all_goals(refine DD 5 ?_;refine D3 6 ?_;refine D5 ?_;refine Y0 ?_;refine D9 ?_;refine D8 ?_)
    case' dr1_3=>
     (refine D5 ?_;(refine CF 164 ?_;refine GR1 rfl (h4 _ ML) ?_;(rintro v4 μ4 c u;obtain⟨A1,c1,ps,rfl,ad,aa,hS,l⟩:=u.sl;have ak:=Kids.one l;have al:=fP kD ps;have ah:=hS.1;have H4:MLe μ μ4:=MLe.trans ML c;have d:=d.mono c);dsimp only[ca,na]);refine D9 ?_)
     all_goals(refine D3 1 ?_;(with_reducible apply bS);(iterate 4 exact rfl);(((with_reducible apply gT);exact rfl;(repeat first|with_reducible exact bT|with_reducible apply cG);exact rfl)))
     all_goals(refine D3 4 ?_;refine D5 ?_;(((refine oO 1 6 rfl rfl (by decide) ?_);(with_reducible apply pJ);(iterate 3 exact rfl);(repeat with_reducible exact eO);(iterate 6 exact rfl);(((with_reducible apply tM);exact rfl;exact hS;exact fun _ _=>rfl));omega;(assumption);omega;omega;intro v;  (refine bB 0 rfl ?_);rintro A2 c2 rfl z));refine D9 ?_)
     all_goals(refine DD 5 ?_;refine D3 6 ?_;refine D5 ?_;refine Y0 ?_;refine D9 ?_;refine D8 ?_)
    all_goals try repeat' (refine KZ ?_)
    all_goals(apply aX y rfl;exact(RG 4 rfl rfl rfl rfl rfl);exact rfl;exact .refl _;exact fun μ' hle x=>(by have h8:=KR.bI (bD (enc:=bV) (xs:=(x2,u2)::ps) (x _ (by exact(aA))) (by rw[aF,ah];omega) (by simp) rfl) z.cap (Kids.cons (d.mono hle) (Kids.mono l hle));rw[bE,aa]at h8;exact h8))
   ·rw[if_neg c5]at o;have c5f:=eq_false_of_ne_true c5;by_cases c6:isR E s3 ⟨#[63,46]⟩=true∨(aJ E s3).k=6∧(aJ E s3).n=0
    ·rw[if_pos c6]at o;obtain⟨s4,e4,m4,l4,t4,o4⟩:=kV hE (mv0 j);have ab:=m4.inn j;rw[e4]at o;subst o;try repeat' (first|refine PBF ?_|refine KO ?_|(refine CF 22 ?_;refine GP1 rfl (bK (by assumption) (hm.mono ML)) ?_;dsimp only[ca,na])|(refine CF 23 ?_;refine GP2 rfl (dD (by assumption) (hm.mono ML) _) ?_;dsimp only[ca,na])|(refine CF 26 ?_;refine GU1 rfl (lY (by assumption) (by assumption) (hm.mono ML)) ?_;intro v9;dsimp only[ca,na])|refine KZ ?_|refine NB fun b=>?_|(refine KB ?_ ?_<;>intro hp))
     all_goals try(exfalso;(simp_all;done))
     all_goals(apply aX y rfl;exact(RG 4 rfl rfl rfl rfl rfl);exact rfl;exact .refl _;exact fun μ' hle x=>KR.eT [(x2,u2)] (x _ (by exact(aA))) rfl (by repeat first|exact bH|refine bA rfl ?_) (Kids.cons (d.mono hle) (Kids.nil _)))
    ·rw[if_neg c6]at o;subst o;try repeat' (first|refine PBF ?_|refine KO ?_|(refine CF 22 ?_;refine GP1 rfl (bK (by assumption) (hm.mono ML)) ?_;dsimp only[ca,na])|(refine CF 23 ?_;refine GP2 rfl (dD (by assumption) (hm.mono ML) _) ?_;dsimp only[ca,na])|refine KZ ?_|refine NB fun b=>?_|(refine KB ?_ ?_<;>intro hp))
     all_goals try(exfalso;(simp_all;done))
     all_goals(apply aX y rfl;exact(RG 4 rfl rfl rfl rfl rfl);exact rfl;exact .refl _;exact fun μ' hle x=>KR.eT [(x2,u2)] (x _ (by exact(aA))) rfl (by repeat first|exact bH|refine bA rfl ?_) (Kids.cons (d.mono hle) (Kids.nil _)))
  ·by_cases c5:isR E s3 ⟨#[40]⟩=true
   ·rw[if_pos c5]at o;have g9:=AL E r s3;have h4:=fun(μ9:Mem) (h9:MLe μ μ9)=>IY hE hr hw j (hm.mono h9) (by omega);have m4:=(FQ hE hr j (by omega)).mv;generalize tD E r s3=p9 at o h4 m4 g9;obtain⟨y4,s4⟩:=p9;dsimp only at o h4 m4 g9;have ab:=m4.inn j;have l4:=m4.le;have t4:=m4.lt;subst o;try repeat' (first|refine PBT ?_|refine KO ?_|(refine CF 22 ?_;refine GP1 rfl (bK (by assumption) (hm.mono ML)) ?_;dsimp only[ca,na])|(refine CF 23 ?_;refine GP2 rfl (dD (by assumption) (hm.mono ML) _) ?_;dsimp only[ca,na])|refine KZ ?_|refine NB fun b=>?_)
    refine aW 7 _ (by kernel_rfl) rfl (aG (aK (aK (aG (aK (aG aU)))))) ?_;all_goals(refine DD 0 ?_;refine DD 2 ?_)
    refine dS 1 3 (by kernel_rfl) ?dr2_1 ?dr2_3
    case' dr2_1=>
     (((with_reducible apply bS);(iterate 4 exact rfl);(((with_reducible apply gT);exact rfl;(repeat first|with_reducible exact bT|with_reducible apply cG);exact rfl))))
     all_goals(refine D3 3 ?_;refine D5 ?_;(refine CF 164 ?_;refine GR1 rfl (h4 _ ML) ?_;(rintro v4 μ4 c u;obtain⟨A1,c1,ps,rfl,ad,aa,hS,l⟩:=u.sl;have ak:=Kids.one l;have al:=fP kD ps;have ah:=hS.1;have H4:MLe μ μ4:=MLe.trans ML c;have d:=d.mono c);dsimp only[ca,na]);refine D9 ?_)
     all_goals(refine D3 4 ?_;refine D5 ?_;(((refine oO 1 6 rfl rfl (by decide) ?_);(with_reducible apply pJ);(iterate 3 exact rfl);(repeat with_reducible exact eO);(iterate 6 exact rfl);(((with_reducible apply tM);exact rfl;exact hS;exact fun _ _=>rfl));omega;(assumption);omega;omega;intro v;  (refine bB 0 rfl ?_);rintro A2 c2 rfl z));refine D9 ?_)
     all_goals(refine DD 5 ?_;refine D3 6 ?_;refine D5 ?_;refine Y0 ?_;refine D9 ?_;refine D8 ?_)
    case' dr2_3=>
     (refine D5 ?_;(refine CF 164 ?_;refine GR1 rfl (h4 _ ML) ?_;(rintro v4 μ4 c u;obtain⟨A1,c1,ps,rfl,ad,aa,hS,l⟩:=u.sl;have ak:=Kids.one l;have al:=fP kD ps;have ah:=hS.1;have H4:MLe μ μ4:=MLe.trans ML c;have d:=d.mono c);dsimp only[ca,na]);refine D9 ?_)
     all_goals(refine D3 1 ?_;(with_reducible apply bS);(iterate 4 exact rfl);(((with_reducible apply gT);exact rfl;(repeat first|with_reducible exact bT|with_reducible apply cG);exact rfl)))
     all_goals(refine D3 4 ?_;refine D5 ?_;(((refine oO 1 6 rfl rfl (by decide) ?_);(with_reducible apply pJ);(iterate 3 exact rfl);(repeat with_reducible exact eO);(iterate 6 exact rfl);(((with_reducible apply tM);exact rfl;exact hS;exact fun _ _=>rfl));omega;(assumption);omega;omega;intro v;  (refine bB 0 rfl ?_);rintro A2 c2 rfl z));refine D9 ?_)
     all_goals(refine DD 5 ?_;refine D3 6 ?_;refine D5 ?_;refine Y0 ?_;refine D9 ?_;refine D8 ?_)
    all_goals try repeat' (refine KZ ?_)
    all_goals(apply aX y rfl;exact(RG 4 rfl rfl rfl rfl rfl);exact rfl;exact .refl _;exact fun μ' hle x=>(by have h8:=KR.bI (bD (enc:=bV) (xs:=(x2,u2)::ps) (x _ (by exact(aA))) (by rw[aF,ah];omega) (by simp) rfl) z.cap (Kids.cons (d.mono hle) (Kids.mono l hle));rw[bE,aa]at h8;exact h8))
   ·rw[if_neg c5]at o;have c5f:=eq_false_of_ne_true c5;by_cases c6:isR E s3 ⟨#[63,46]⟩=true∨(aJ E s3).k=6∧(aJ E s3).n=0
    ·rw[if_pos c6]at o;obtain⟨s4,e4,m4,l4,t4,o4⟩:=kV hE (mv0 j);have ab:=m4.inn j;rw[e4]at o;subst o;try repeat' (first|refine PBF ?_|refine KO ?_|(refine CF 22 ?_;refine GP1 rfl (bK (by assumption) (hm.mono ML)) ?_;dsimp only[ca,na])|(refine CF 23 ?_;refine GP2 rfl (dD (by assumption) (hm.mono ML) _) ?_;dsimp only[ca,na])|(refine CF 26 ?_;refine GU1 rfl (lY (by assumption) (by assumption) (hm.mono ML)) ?_;intro v9;dsimp only[ca,na])|refine KZ ?_|refine NB fun b=>?_|(refine KB ?_ ?_<;>intro hp))
     all_goals try(exfalso;(simp_all;done))
     all_goals(apply aX y rfl;exact(RG 4 rfl rfl rfl rfl rfl);exact rfl;exact .refl _;exact fun μ' hle x=>KR.eT [(x2,u2)] (x _ (by exact(aA))) rfl (by repeat first|exact bH|refine bA rfl ?_) (Kids.cons (d.mono hle) (Kids.nil _)))
    ·rw[if_neg c6]at o;subst o;try repeat' (first|refine PBF ?_|refine KO ?_|(refine CF 22 ?_;refine GP1 rfl (bK (by assumption) (hm.mono ML)) ?_;dsimp only[ca,na])|(refine CF 23 ?_;refine GP2 rfl (dD (by assumption) (hm.mono ML) _) ?_;dsimp only[ca,na])|refine KZ ?_|refine NB fun b=>?_|(refine KB ?_ ?_<;>intro hp))
     all_goals try(exfalso;(simp_all;done))
     all_goals(apply aX y rfl;exact(RG 4 rfl rfl rfl rfl rfl);exact rfl;exact .refl _;exact fun μ' hle x=>KR.eT [(x2,u2)] (x _ (by exact(aA))) rfl (by repeat first|exact bH|refine bA rfl ?_) (Kids.cons (d.mono hle) (Kids.nil _)))
end
end
end Go.Proofs.YtknieidhopbngaaGreat
