/- Package read: more small methods. -/
import Derived.Test.YtknieidhopbngaaGreatQal
set_option maxRecDepth 20000
set_option maxHeartbeats 2000000
namespace Go.Proofs.YtknieidhopbngaaGreat
section
open Go.RowKit Go.Vcg
theorem aFp{E:TkE}{s:RdS}(hi:s.i<E.ts.length):((jE E.ts (s.i:Int)).2=false→rJ E s=iE E s)∧((jE E.ts (s.i:Int)).2=true→0≤(jE E.ts (s.i:Int)).1∧(jE E.ts (s.i:Int)).1≤s.i+1∧rJ E s={ s with i:=min (jE E.ts (s.i:Int)).1.toNat (E.ts.length-1) }):=by
 have a:E.ts[s.i]? =some (aJ E s):=by unfold aJ tk;rw[cE,aI hi];rfl
 rw[MX a];unfold rJ isR;by_cases h1:(aJ E s).k=5∧(aJ E s).s=XE
 ·rw[if_pos h1,if_pos (show sgn (aJ E s) ⟨#[59]⟩=true from mD.2 h1)];exact⟨fun h=>(by cases h),fun _=>⟨by dsimp only;omega,by dsimp only;omega,by dsimp only;congr 1⟩⟩
 ·rw[if_neg h1,if_neg (show¬sgn (aJ E s) ⟨#[59]⟩=true from fun h=>h1 (mD.1 h))];by_cases h2:PJ (aJ E s)=true
  ·rw[if_pos h2,if_pos h2];have:min (s.i:Int).toNat (E.ts.length-1)=s.i:=by omega
   refine⟨fun h=>(by cases h),fun _=>⟨by dsimp only;omega,by dsimp only;omega,?_⟩⟩;dsimp only;rw[this]
  ·rw[if_neg h2,if_neg h2];exact⟨fun _=>rfl,fun h=>(by cases h)⟩
attribute [local irreducible] jE G GC GQ GA dV Calls IntKind.wrap Int.decLt Int.decLe
section
variable{E:TkE}{V:RPl}{xb:Nat}{s:RdS}{μ:Mem}(hi:s.i<E.ts.length)(hm:RM E V μ)
include hi hm
theorem aBm:CU E V xb 45 [.pointer (some ⟨xb,0,none⟩)] s (rJ E s) μ:=by
 intro w hμ d;have a:=bF d.diff;have g:=hm.few;have hE:=fun w μc hw (hle:MLe μ μc)=>QV w μc hw V.A E.ts.length V.c E.ts (hm.toks.mono hle) (by omega) s.i hi;obtain⟨q1,q2⟩:=aFp hi;generalize jE E.ts (s.i:Int)=r at hE q1 q2;obtain⟨n,ok⟩:=r;cases ok
 ·rw[q1 rfl];refine aC Tryz.func45 rfl Tryz.ntmps45 (by simp) hμ d ?_;try repeat' (refine KZ ?_)
  refine aW 14 _ (by kernel_rfl) rfl (aK aU) ?_;all_goals(refine DD 0 ?_;refine DD 1 ?_;refine DD 2 ?_;refine DD 3 ?_;refine DD 4 ?_;refine DD 5 ?_;refine DD 6 ?_;refine DD 7 ?_)
  all_goals(refine D3 8 ?_;refine D5 ?_;(with_reducible apply C1);exact rfl;exact EN;exact fun w μc hw b=>hE w μc hw b.le;refine D9 ?_)
  all_goals(refine DD 9 ?_;refine DD 10 ?_;refine DD 11 ?_;refine DD 12 ?_;refine DD 13 ?_;refine D8 ?_)
  try repeat' (first|refine KO ?_|(refine CF 26 ?_;refine HU1 0 rfl (nT hi hm) ?_;intro v9;dsimp only[ca,na]))
  all_goals try(exfalso;omega)
  exact IT 0 (.inl rfl) a rfl rfl rfl
 ·obtain⟨h,h1,h2⟩:=q2 rfl;dsimp only at h h1 h2;have e1:(if(E.ts.length:Int)-1< ((n,true):Int×Bool).fst then(E.ts.length:Int)-1 else((n,true):Int×Bool).fst)=((min n.toNat (E.ts.length-1):Nat):Int):=by dsimp only;split<;>omega
  rw[h2];refine aC Tryz.func45 rfl Tryz.ntmps45 (by simp) hμ d ?_;try repeat' (refine KZ ?_)
  refine aW 14 _ (by kernel_rfl) rfl (aK aU) ?_;all_goals(refine DD 0 ?_;refine DD 1 ?_;refine DD 2 ?_;refine DD 3 ?_;refine DD 4 ?_;refine DD 5 ?_;refine DD 6 ?_;refine DD 7 ?_)
  all_goals(refine D3 8 ?_;refine D5 ?_;(with_reducible apply C1);exact rfl;exact EN;exact fun w μc hw b=>hE w μc hw b.le;refine D9 ?_)
  all_goals(refine DD 9 ?_;refine DD 10 ?_;refine DD 11 ?_;refine DD 12 ?_;refine DD 13 ?_;refine D8 ?_)
  try repeat' (refine KZ ?_)
  all_goals try(exfalso;omega)
  rw[e1];exact IU 0 (.inr rfl) a rfl rfl (.cells PU)
theorem aBn:CP E V xb 108 [.pointer (some ⟨xb,0,none⟩)] s s (.bool (kJ E s)) μ:=by
 intro w hμ b;have a:=bF b.diff;refine aC Tryz.func108 rfl Tryz.ntmps108 (by simp) hμ b ?_;try repeat' (first|refine KO ?_|(refine CF 54 ?_;refine HP2 0 rfl (SB hi hm _) ?_;dsimp only[ca,na])|(refine CF 24 ?_;refine HP2 0 rfl (tP hi hm _) ?_;dsimp only[ca,na])|refine KZ ?_|(refine KB ?_ ?_<;>intro hp))
 all_goals(refine kS 0 a rfl (aN rfl) rfl rfl ?_;unfold kJ;simp[*])
omit hi hm in
theorem aBl(k:Nat):CP E V xb 168 [.pointer (some ⟨xb,0,none⟩),.int .i64 (k:Int)] s s (.int .i64 (lR k s)) μ:=by
 intro w hμ b;have a:=bF b.diff;refine aC Tryz.func168 rfl Tryz.ntmps168 (by simp) hμ b ?_;try repeat' (refine KZ ?_)
 refine aW 26 _ (by kernel_rfl) rfl (aK aU) ?_;all_goals(refine DD 0 ?_;refine DD 1 ?_;refine DD 2 ?_;refine DD 3 ?_;refine DD 4 ?_;refine DD 5 ?_)
 all_goals(try(refine D7 6 ?_;(repeat' (refine KB ?_ ?_<;>intro hp))))
 all_goals(refine DD 6 ?_;refine DD 7 ?_;refine DD 8 ?_;refine DD 9 ?_;refine DD 10 ?_;refine DD 11 ?_;refine DD 12 ?_;refine DD 13 ?_;refine DD 14 ?_)
 all_goals(try(refine D7 15 ?_;(repeat' (refine KB ?_ ?_<;>intro hp))))
 all_goals(refine DD 15 ?_;refine DD 16 ?_;refine DD 17 ?_;refine DD 18 ?_;refine DD 19 ?_;refine DD 20 ?_;refine DD 21 ?_;refine DD 22 ?_;refine DD 23 ?_;refine DD 24 ?_;refine DD 25 ?_;refine D8 ?_)
 all_goals try repeat' (first|refine KZ ?_|(refine KB ?_ ?_<;>intro hp))
 all_goals(refine kS 0 a rfl (aN rfl) rfl rfl ?_;unfold lR;simp_all)
theorem aBj(b:Bool):CP E V xb 129 [.pointer (some ⟨xb,0,none⟩),.bool b] s s (.int .i64 (eI E b s)) μ:=by
 intro w hμ c;have a:=bF c.diff;refine aC Tryz.func129 rfl Tryz.ntmps129 (by simp) hμ c ?_;try repeat' (first|refine KO ?_|(refine CF 22 ?_;refine HP1 0 rfl (gR hi hm) ?_;dsimp only[ca,na])|(refine CF 24 ?_;refine HP2 1 rfl (tP hi hm _) ?_;dsimp only[ca,na])|refine K2 147 (fun w μc hw d=>aF1 _ w μc hw) ?_|refine KZ ?_|refine NB fun b=>?_|(refine KB ?_ ?_<;>intro hp))
 all_goals(refine kS 1 a rfl (aN rfl) rfl rfl ?_;unfold eI;simp_all)
theorem aEw(k:Nat)(hk:k<E.ts.length):CP E V xb 61 [.pointer (some ⟨xb,0,none⟩),.int .i64 (k:Int)] s s (.bool (wE E k s)) μ:=by
 have _:=hi
 intro w hμ g;have a:=bF g.diff;have d:=hm.few;obtain⟨A,c,A2,c2⟩:=V;obtain⟨ad,rfl,hc⟩:=xP hm hk;obtain⟨ad2,rfl,b,j,i⟩:=aDw hm hk;refine aC Tryz.func61 rfl Tryz.ntmps61 (by simp) hμ g ?_;try repeat' (refine KZ ?_)
 refine aW 24 _ (by kernel_rfl) rfl (aK aU) ?_;all_goals(refine DD 0 ?_;refine DD 1 ?_;refine D1 2 ?_;refine DD 3 ?_;refine DD 4 ?_;refine D2 5 rfl (by exact U1 k) ?_;refine D2 6 rfl (by exact U4 hc) ?_)
 all_goals(refine D3 7 ?_;refine D5 ?_;(with_reducible apply C1);exact rfl;exact EN;exact fun w μc hw h=>gI _ _ w μc hw;refine D9 ?_)
 all_goals refine DD 8 ?_
 all_goals(try(refine D7 9 ?_;(repeat' (refine KB ?_ ?_<;>intro hp))))
 all_goals(refine DD 9 ?_;refine DD 10 ?_;refine D1 11 ?_;(first|refine D1 12 ?_|refine DD 12 ?_);refine DD 13 ?_;(first|refine D1 14 ?_|(refine D2 14 rfl (by exact U1 k) ?_));(first|refine D1 15 ?_|(refine D2 15 rfl (by exact U3 (b.at 0 rfl)) ?_));refine DD 16 ?_;refine DD 17 ?_;refine D1 18 ?_;(first|refine D1 19 ?_|refine DD 19 ?_);(first|refine D1 20 ?_|refine DD 20 ?_);refine D1 21 ?_;refine DD 22 ?_;refine DD 23 ?_;refine D8 ?_)
 all_goals try repeat' (refine KZ ?_)
 all_goals(refine kS 0 a rfl (aN rfl) rfl rfl ?_;unfold wE;simp_all)
end
end
section
open Go.RowKit Go.Vcg
abbrev BB(b:Nat)(v:Bool):Bk:=.inl ⟨b,4,1,[(0,.bool v)]⟩
def CL(E:TkE)(V:RPl)(xb nb lb:Nat)(b:Bool)(k:Int)(x y:Bool)(s:RdS)(q:(T×Bool×Bool)×RdS)(μ:Mem):Prop:=∀(w:World),MOk μ w→Go.Vcg.Own μ [BB nb x,BB lb y,RB E V xb s] w→
 Calls Tryz.prog 115 #[.pointer (some ⟨xb,0,none⟩),.bool b,.int .i64 k,.pointer (some ⟨nb,0,none⟩),.pointer (some ⟨lb,0,none⟩)] w fun e w' =>∃(v:Value) (μ' :Mem) (_:Unit),e=.returned v∧iO (fM [BB nb x,BB lb y,RB E V xb s]) w w' μ [BB nb q.1.2.1,BB lb q.1.2.2,RB E V xb q.2] μ' ∧TV μ' q.1.1 v
structure rO (E:TkE) (src:ByteArray) (V:RPl) (xb n:Nat) (r:RdR):Prop where
 asg:∀b a s μ,In E src s→(a=2→b=false)→8*(E.ts.length-s.i)+5≤n→RM E V μ→zCR E V xb 35 [.pointer (some ⟨xb,0,none⟩),.bool b,.int .i64 a] s (r.asg b a s).2 μ (fun μ' v=>TV μ' (r.asg b a s).1 v)
 clb:∀nb lb b k x y s μ,In E src s→(s.bg=s.i→s.as' =2→b=false)→8*(E.ts.length-s.i)+4≤n→0≤k∧k≤12→RM E V μ→CL E V xb nb lb b k x y s (r.clb b k x y s) μ
 una:∀s μ,In E src s→8*(E.ts.length-s.i)+3≤n→RM E V μ→zCR E V xb 128 [.pointer (some ⟨xb,0,none⟩)] s (r.una s).2 μ (fun μ' v=>TV μ' (r.una s).1 v)
 fre:∀s μ,In E src s→8*(E.ts.length-s.i)+2≤n→(aJ E s).k≠0→RM E V μ→zCR E V xb 157 [.pointer (some ⟨xb,0,none⟩)] s (r.fre s).2 μ (fun μ' v=>TV μ' (r.fre s).1 v)
 stm:∀b s μ,In E src s→8*(E.ts.length-s.i)+6≤n→RM E V μ→zCR E V xb 25 [.pointer (some ⟨xb,0,none⟩),.bool b] s (r.stm b s).2 μ (fun μ' v=>TV μ' (r.stm b s).1 v)
 tar:∀s μ,In E src s→8*(E.ts.length-s.i)+5≤n→RM E V μ→zCR E V xb 111 [.pointer (some ⟨xb,0,none⟩)] s (r.tar s).2 μ (fun μ' v=>TV μ' (r.tar s).1 v)
attribute [local irreducible] jE G GC GQ GA dV Calls IntKind.wrap Int.decLt Int.decLe
section
variable{E:TkE}{V:RPl}{xb:Nat}{s:RdS}{μ:Mem}(hi:s.i<E.ts.length)(hm:RM E V μ)
include hi hm
theorem qX:CP E V xb 56 [.pointer (some ⟨xb,0,none⟩),oN (aJ E s)] s s (.bool (sJ E s)) μ:=by
 intro w hμ q;have d:=bF q.diff;have x:=hm.few;obtain⟨A,c,A2,c2⟩:=V;obtain⟨ad2,r,o,v,u⟩:=aDw hm hi;obtain⟨ad,y,-⟩:=xP hm hi;dsimp only at y r;subst y r;have tk2:∀k,k<E.ts.length→iK μ (ad.add (k*7)) (eB (tk E k)):=fun k hk=>by obtain⟨a,e,h⟩:=xP hm hk;cases e;exact h
 generalize hz:E.cl.getD s.i (-1)=z at o v u;generalize g:sJ E s=R;unfold sJ at g;dsimp only at g;rw[hz]at g;by_cases hs:sgn (aJ E s) ⟨#[40]⟩=true
 ·rw[if_pos hs,if_pos hs]at g;by_cases aa:z<0
  ·have l:R=false:=by rw[←g,decide_eq_false (by omega)];rfl
   refine aC Tryz.func56 rfl Tryz.ntmps56 (by simp) hμ q ?_;try repeat' (first|refine KO ?_|refine K2 40 (fun w μc hw j=>hs▸gI _ _ w μc hw) ?_|refine KZ ?_|refine NB fun b=>?_)
   refine aW 11 _ (by kernel_rfl) rfl (aK (aK aU)) ?_;all_goals(refine DD 0 ?_;refine DD 1 ?_;refine D1 2 ?_;refine DD 3 ?_;refine DD 4 ?_;refine DD 5 ?_;refine D1 6 ?_;refine DD 7 ?_;refine D2 8 rfl (by exact U1 s.i) ?_;refine D2 9 rfl (by exact U3 (o.at 0 rfl)) ?_;refine DD 10 ?_;refine D8 ?_)
   try repeat' (refine KZ ?_)
   all_goals try(exfalso;omega)
   exact kS 1 d rfl (aN rfl) rfl rfl (by rw[l])
  ·obtain⟨k,rfl⟩:∃k:Nat,z=k:=⟨z.toNat,by omega⟩;have hk:k<E.ts.length:=by omega
   have ck:=tk2 k hk;rw[decide_eq_true (by omega),fG]at g;by_cases p:k+1<E.ts.length
   ·have ck1:=tk2 (k+1) p;rw[decide_eq_true (show(k:Int)+1<E.ts.length by omega),show((k:Int)+1).toNat=k+1 by omega]at g;refine aC Tryz.func56 rfl Tryz.ntmps56 (by simp) hμ q ?_;try repeat' (first|refine KO ?_|refine K2 40 (fun w μc hw j=>hs▸gI _ _ w μc hw) ?_|refine KZ ?_|refine NB fun b=>?_)
    refine aW 11 _ (by kernel_rfl) rfl (aK (aK aU)) ?_;all_goals(refine DD 0 ?_;refine DD 1 ?_;refine D1 2 ?_;refine DD 3 ?_;refine DD 4 ?_;refine DD 5 ?_;refine D1 6 ?_;refine DD 7 ?_;refine D2 8 rfl (by exact U1 s.i) ?_;refine D2 9 rfl (by exact U3 (o.at 0 rfl)) ?_;refine DD 10 ?_;refine D8 ?_)
    try repeat' (first|refine KO ?_|refine K2 40 (fun w μc hw j=>gI _ _ w μc hw) ?_|(refine KV (b:=by first|exact U1 k|exact U1 (k+1)|exact U4 ck|exact U4 ck1) (c:=?_))|refine KZ ?_|refine NB fun b=>?_|(refine KB ?_ ?_<;>intro hp))
    all_goals try(exfalso;omega)
    all_goals first|exact kS 2 d rfl (aN rfl) rfl rfl (by rw[←g];simp_all)|exact kS 1 d rfl (aN rfl) rfl rfl (by rw[←g];simp_all)
   ·rw[decide_eq_false (show¬(k:Int)+1<E.ts.length by omega)]at g;have l:R=false:=by rw[←g];simp
    refine aC Tryz.func56 rfl Tryz.ntmps56 (by simp) hμ q ?_;try repeat' (first|refine KO ?_|refine K2 40 (fun w μc hw j=>hs▸gI _ _ w μc hw) ?_|refine KZ ?_|refine NB fun b=>?_)
    refine aW 11 _ (by kernel_rfl) rfl (aK (aK aU)) ?_;all_goals(refine DD 0 ?_;refine DD 1 ?_;refine D1 2 ?_;refine DD 3 ?_;refine DD 4 ?_;refine DD 5 ?_;refine D1 6 ?_;refine DD 7 ?_;refine D2 8 rfl (by exact U1 s.i) ?_;refine D2 9 rfl (by exact U3 (o.at 0 rfl)) ?_;refine DD 10 ?_;refine D8 ?_)
    try repeat' (first|refine KO ?_|refine K2 40 (fun w μc hw j=>gI _ _ w μc hw) ?_|(refine KV (b:=by first|exact U1 k|exact U4 ck) (c:=?_))|refine KZ ?_|(refine KB ?_ ?_<;>intro hp))
    all_goals try(exfalso;omega)
    all_goals exact kS 1 d rfl (aN rfl) rfl rfl (by rw[l])
 ·have ab:sgn (aJ E s) ⟨#[40]⟩=false:=by simpa using hs
  rw[if_neg hs,if_neg hs]at g;by_cases p:s.i+1<E.ts.length
  ·have ck1:=tk2 (s.i+1) p;rw[decide_eq_true (show(s.i:Int)+1<E.ts.length by omega),show((s.i:Int)+1).toNat=s.i+1 by omega]at g;refine aC Tryz.func56 rfl Tryz.ntmps56 (by simp) hμ q ?_;try repeat' (first|refine KO ?_|refine K2 40 (fun w μc hw j=>gI _ _ w μc hw) ?_|(refine CF 87 ?_;refine HP2 1 rfl (gF _) ?_;(dsimp only[ca,na]))|(refine KV (b:=by first|exact U1 (s.i+1)|exact U4 ck1) (c:=?_))|refine KZ ?_|refine NB fun b=>?_|(refine KB ?_ ?_<;>intro hp))
   all_goals try(exfalso;(simp_all;done))
   all_goals first|exact kS 2 d rfl (aN rfl) rfl rfl (by rw[←g];simp_all)|exact kS 1 d rfl (aN rfl) rfl rfl (by rw[←g];simp_all)
  ·rw[decide_eq_false (show¬(s.i:Int)+1<E.ts.length by omega)]at g;have l:R=false:=by rw[←g];simp
   refine aC Tryz.func56 rfl Tryz.ntmps56 (by simp) hμ q ?_;try repeat' (first|refine KO ?_|refine K2 40 (fun w μc hw j=>gI _ _ w μc hw) ?_|(refine CF 87 ?_;refine HP2 1 rfl (gF _) ?_;dsimp only[ca,na])|refine KZ ?_|refine NB fun b=>?_|(refine KB ?_ ?_<;>intro hp))
   all_goals try(exfalso;(simp_all;done))
   all_goals exact kS 1 d rfl (aN rfl) rfl rfl (by rw[l])
theorem xT(t:T)(u:Value)(hk:KR μ t.kids u)(g:s.e=0→t.size≤1000000)(bx:Bool):zCR E V xb 60 [.pointer (some ⟨xb,0,none⟩),.agg (dG t u).toArray,.bool bx] s (iY E t bx s).2 μ (fun μ' v=>TV μ' (iY E t bx s).1 v):=by
 have _:=hi
 intro w hμ i;have a:=bF i.diff;have ou:=hk.one;generalize c:iY E t bx s=q;unfold iY at c;by_cases he:s.e≠0
 ·rw[if_pos he]at c;subst c;refine aC Tryz.func60 rfl Tryz.ntmps60 (by simp) hμ i ?_;try repeat' (first|refine KZ ?_|refine NB fun b=>?_)
  all_goals try(exfalso;omega)
  exact nS 2 a rfl (by exact(RG 0 rfl rfl rfl rfl rfl)) rfl rfl fun μ' hle=>⟨_,rfl,hk.mono hle⟩
 rw[if_neg he]at c;have g:=g (Decidable.not_not.1 he);cases bx
 ·rw[if_neg (by decide)]at c;by_cases hp:(xY t).2=0
  ·rw[if_pos hp]at c;subst c;refine aC Tryz.func60 rfl Tryz.ntmps60 (by simp) hμ i ?_;try repeat' (first|refine KZ ?_|((with_reducible apply F2 90);exact rfl;exact EN;exact fun w hw=>sU t w μ u hw hk g;rintro v2 μ2 h ⟨u2,rfl,d⟩;have o2:=d.one)|refine XS0 ?_|refine NB fun b=>?_)
   all_goals try(exfalso;omega)
   exact nS 3 a rfl (by exact(RG 1 rfl rfl rfl rfl rfl)) rfl rfl fun μ' hle=>⟨_,rfl,d.mono hle⟩
  ·rw[if_neg hp]at c;subst c;refine aC Tryz.func60 rfl Tryz.ntmps60 (by simp) hμ i ?_;try repeat' (first|refine KO ?_|(refine CF 46 ?_;refine HU3 3 rfl (sT (hm.mono h) (by omega) _ _) ?_;intro v9;dsimp only[ca,na])|refine KZ ?_|((with_reducible apply F2 90);exact rfl;exact EN;exact fun w hw=>sU t w μ u hw hk g;rintro v2 μ2 h ⟨u2,rfl,d⟩;have o2:=d.one)|refine XS0 ?_|refine NB fun b=>?_)
   all_goals try(exfalso;omega)
   exact nS 3 a rfl (by exact(RG 1 rfl rfl rfl rfl rfl)) rfl rfl fun μ' hle=>⟨_,rfl,d.mono hle⟩
 ·rw[if_pos rfl]at c;cases ht:eW t with
  | true=>
    rw[ht,if_pos rfl]at c;subst c;refine aC Tryz.func60 rfl Tryz.ntmps60 (by simp) hμ i ?_;try repeat' (first|refine KO ?_|refine K2 62 (fun w μc hw j=>ht▸jM w μc hw t u) ?_|refine KZ ?_|refine NB fun b=>?_)
    all_goals try(exfalso;omega)
    exact nS 2 a rfl (by exact(RG 0 rfl rfl rfl rfl rfl)) rfl rfl fun μ' hle=>⟨_,rfl,hk.mono hle⟩
  | false=>
    rw[ht,if_neg (by decide)]at c;subst c;refine aC Tryz.func60 rfl Tryz.ntmps60 (by simp) hμ i ?_;try repeat' (first|refine KO ?_|refine K2 62 (fun w μc hw j=>ht▸jM w μc hw t u) ?_|(refine CF 46 ?_;refine HU3 2 rfl (sT hm (by omega) _ _) ?_;intro v9;dsimp only[ca,na])|refine KZ ?_|refine NB fun b=>?_)
    all_goals try(exfalso;omega)
    exact nS 2 a rfl (by exact(RG 0 rfl rfl rfl rfl rfl)) rfl rfl fun μ' hle=>⟨_,rfl,hk.mono hle⟩
theorem HA(o a n m:Int)(x:ByteArray)(k:T)(u:Value)(hk:KR μ [k] u):zCR E V xb 145 [.pointer (some ⟨xb,0,none⟩),.agg (dG (T.mk o a n m x [k]) u).toArray] s (DA E k s) μ (fun μ' v=>TV μ' (T.mk o a n m x [k]) v):=by
 have _:=hi
 intro w hμ p;have d:=bF p.diff;have l:=hk;obtain⟨A1,c1,rfl,hcap,i⟩:=l.form;obtain⟨ad,x0,rfl,h,r,y⟩:=i 0 k rfl;generalize g:DA E k s=q;unfold DA at g;by_cases he:s.e=0∧eW k=false
 ·rw[if_pos he]at g;subst g;refine aC Tryz.func145 rfl Tryz.ntmps145 (by simp) hμ p ?_;try repeat' (first|refine KO ?_|refine K2 62 (fun w μc hw j=>he.2▸jM w μc hw k x0) ?_|(refine CF 46 ?_;refine HU3 2 rfl (sT hm (by omega) _ _) ?_;(intro v9);(dsimp only[ca,na]))|(refine KV (b:=by first|exact U1 0|exact U4 h) (c:=?_))|refine KZ ?_|refine NB fun b=>?_)
  all_goals try(exfalso;omega)
  exact nS 2 d rfl (by exact(RG 0 rfl rfl rfl rfl rfl)) rfl rfl fun μ' hle=>⟨_,rfl,hk.mono hle⟩
 ·rw[if_neg he]at g;subst g;refine aC Tryz.func145 rfl Tryz.ntmps145 (by simp) hμ p ?_;try repeat' (first|refine KO ?_|refine K2 62 (fun w μc hw j=>jM w μc hw k x0) ?_|(refine CF 46 ?_;refine HU3 2 rfl (sT hm (by omega) _ _) ?_;(intro v9);(dsimp only[ca,na]))|(refine KV (b:=by first|exact U1 0|exact U4 h) (c:=?_))|refine KZ ?_|refine NB fun b=>?_|(refine KB ?_ ?_<;>intro hp))
  all_goals try(exfalso;(simp_all;done))
  all_goals exact nS 2 d rfl (by exact(RG 0 rfl rfl rfl rfl rfl)) rfl rfl fun μ' hle=>⟨_,rfl,hk.mono hle⟩
end
end
end Go.Proofs.YtknieidhopbngaaGreat
namespace Go.Vcg
open Go.RowKit
section
variable{P:Program}{X:Ctx}{Q:Exit→Act→World→Prop}{μ:Mem}{l:bG}{L:List Bk}
theorem lU{c:Code}{b t sz:Nat}{cs:bG}{xs:List Value}(n s:Nat)(d:sz=n*s)(hc:LC cs 0 sz xs)(hn:n≤1000000)(h:GC P X c Q μ l (.inr ⟨.slice (some ⟨b,0,none⟩) n n,t,s,n,xs⟩::L)):GC P X c Q μ l (.inl ⟨b,t,sz,cs⟩::L):=fun a w hs=>by
 subst d;exact h a w (hs.QQ hc (bO hn (by decide)))
theorem oO{ops:Array Oper}{rest:List Oper}{b t sz:Nat}{cs:bG}{xs:List Value}(n s:Nat)(c:sz=n*s)(hc:lks cs 0 sz=some xs)(hn:n≤1000000)(h:G P X ops Q rest μ l (.inr ⟨.slice (some ⟨b,0,none⟩) n n,t,s,n,xs⟩::L)):G P X ops Q rest μ l (.inl ⟨b,t,sz,cs⟩::L):=fun a w hs=>by
 subst c;exact h a w (hs.QQ (EC hc) (bO hn (by decide)))
theorem uA{c:Code}{x y:Bk}(h:GC P X c Q μ l (y::x::L)):GC P X c Q μ l (x::y::L):=aCa (List.Perm.swap ..) h
end
end Go.Vcg
namespace Go.Proofs.YtknieidhopbngaaGreat
section
open Go.RowKit Go.Vcg
theorem Kids.nil(μ:Mem):Kids μ []:=fun p hp=>by cases hp
theorem Kids.cons{μ:Mem}{t:T}{u:Value}{ps:List (T×Value)}(h:KR μ t.kids u)(g:Kids μ ps):Kids μ ((t,u)::ps):=fun p hp=>(aV.1 hp).elim (fun e=>e▸h) (g p)
theorem Kids.app{μ:Mem}{ps qs:List (T×Value)}(h:Kids μ ps)(g:Kids μ qs):Kids μ (ps++qs):=fun p hp=>(bU.1 hp).elim (h p) (g p)
attribute [local irreducible] jE G GC GQ GA dV Calls IntKind.wrap Int.decLt Int.decLe
section
variable{E:TkE}{src:ByteArray}{V:RPl}{xb n:Nat}{r:RdR}{s:RdS}{μ:Mem}(hE:TOk E src)(hr:nB E src n r)(hw:rO E src V xb n r)(hi:In E src s)(hm:RM E V μ)
include hi hm
theorem LJ(t:T)(u:Value)(hk:KR μ t.kids u):zCR E V xb 162 [.pointer (some ⟨xb,0,none⟩),.agg (dG t u).toArray] s (mJ E t s).2 μ (fun μ' v=>TV μ' (mJ E t s).1 v):=by
 intro w hμ g;have a:=bF g.diff;have ou:=hk.one;have i:=hi.lt;generalize c:mJ E t s=q;unfold mJ at c;by_cases h:(aJ E s).k=1∨(aJ E s).k=2
 ·rw[if_pos h]at c;subst c;refine aC Tryz.func162 rfl Tryz.ntmps162 (by simp) hμ g ?_;try repeat' (first|refine KO ?_|(refine CF 22 ?_;refine HP1 2 rfl (gR hi.lt hm) ?_;dsimp only[ca,na])|(refine CF 42 ?_;refine HP1 3 rfl (fH hi.lt hm) ?_;dsimp only[ca,na])|refine KZ ?_|refine NB fun b=>?_|(refine KB ?_ ?_<;>intro hp))
  all_goals try(exfalso;omega)
  all_goals exact eS 4 a rfl (by exact(RG 2 rfl rfl rfl rfl rfl)) rfl (.refl _) fun μ' hle d=>⟨_,rfl,KR.lit [(t,u)] (d _ (aA)) rfl (by repeat first|exact bH|refine bA rfl ?_) (Kids.single (hk.mono hle))⟩
 ·rw[if_neg h]at c;subst c;refine aC Tryz.func162 rfl Tryz.ntmps162 (by simp) hμ g ?_;try repeat' (first|refine KO ?_|(refine CF 22 ?_;refine HP1 2 rfl (gR hi.lt hm) ?_;dsimp only[ca,na])|(refine CF 26 ?_;refine HU1 3 rfl (nT hi.lt hm) ?_;intro v9;dsimp only[ca,na])|refine KZ ?_|refine NB fun b=>?_)
  all_goals try(exfalso;omega)
  all_goals exact nS 3 a rfl (by exact(RG 1 rfl rfl rfl rfl rfl)) rfl rfl fun μ' hle=>⟨_,rfl,hk.mono hle⟩
theorem HG(t:T)(u:Value)(hk:KR μ t.kids u):zCR E V xb 159 [.pointer (some ⟨xb,0,none⟩),.agg (dG t u).toArray] s (mJ E t (bJ E s)).2 μ (fun μ' v=>TV μ' (mJ E t (bJ E s)).1 v):=by
 intro w hμ h;have c:=bF h.diff;have ou:=hk.one;have i:=hi.lt;have d:In E src (bJ E s):=(mv0 hi).next.inn hi;refine aC Tryz.func159 rfl Tryz.ntmps159 (by simp) hμ h ?_;try repeat' (first|refine KO ?_|(refine CF 42 ?_;refine HP1 2 rfl (fH hi.lt hm) ?_;dsimp only[ca,na])|(refine CF 162 ?_;refine HR2 2 rfl (LJ d hm t u hk) ?_;(rintro v1 μ1 g ⟨u1,rfl,a⟩;have o1:=a.one);dsimp only[ca,na])|refine KZ ?_|refine XS0 ?_|refine NB fun b=>?_)
 exact nS 2 c rfl (by exact(RG 0 rfl rfl rfl rfl rfl)) rfl rfl fun μ' hle=>⟨_,rfl,a.mono hle⟩
include hE hr hw
theorem HH(bi:Bool)(t:T)(u:Value)(hk:KR μ t.kids u)(hn:8*(E.ts.length-s.i)≤n+3):zCR E V xb 34 [.pointer (some ⟨xb,0,none⟩),.agg (dG t u).toArray,.bool bi] s (oC E r bi t s).2 μ (fun μ' v=>TV μ' (oC E r bi t s).1 v):=by
 intro w hμ hO;have k:=bF hO.diff;have ou:=hk.one;have aj:=hi.lt;have ai:=hm.few;generalize z:oC E r bi t s=q;unfold oC at z;by_cases h:isR E s ⟨#[44]⟩=true
 ·rw [if_pos h]at z;unfold bd at z;dsimp only at z;subst z;refine aC Tryz.func34 rfl Tryz.ntmps34 (by simp) hμ hO ?_;try repeat' (first|refine KO ?_|(refine CF 23 ?_;refine HP2 2 rfl (gY hi.lt hm _) ?_;dsimp only[ca,na])|refine KZ ?_|refine NB fun b=>?_|(refine KB ?_ ?_<;>intro hp))
  all_goals try(exfalso;simp_all;done)
  rename_i b4 b6 ba;generalize hQ:pA E r bi (E.ts.length+1) [t] s=Q;refine uA (lU 1 6 rfl (xs:=dG t u) (by repeat first|exact bH|refine bA rfl ?_) (by decide) ?_);refine dH (ι:=Nat×List (T×Value)×RdS×Mem×Value) (fun i=>MLe μ i.2.2.2.1∧Kids i.2.2.2.1 i.2.1∧In E src i.2.2.1∧8*(E.ts.length-i.2.2.1.i)≤n+3∧(i.2.2.1.e=0→E.ts.length-i.2.2.1.i<i.1)∧i.2.1.length+i.1=E.ts.length+2∧Q=pA E r bi i.1 (i.2.1.map (·.1)) i.2.2.1)
   (fun i=>i.1) (fun i=>i.2.2.2.1) (fun _=>[(0,.pointer (some ⟨xb,0,none⟩)),(2,.bool bi),(6,.pointer (some ⟨b6,0,none⟩)),(7,.pointer (some ⟨b,0,none⟩))])
   (fun i=>[.inr ⟨i.2.2.2.2,25,6,i.2.1.length,i.2.1.flatMap bV⟩,.inl ⟨b,25,6,[(0,.int .i64 48),(1,.int .i64 t.at'),(2,.int .i64 0),(3,.int .i64 0),(4,.string ⟨#[]⟩),(5,i.2.2.2.2)]⟩,.inl ⟨b6,25,6,[]⟩,RB E V xb i.2.2.1])
   (E.ts.length+1,[(t,u)],s,μ,.slice (some ⟨ba,0,none⟩) 1 1) ⟨MLe.refl _,Kids.single hk,hi,hn,fun _=>by dsimp only;omega,by simp;omega,hQ.symm⟩ (fun a w hs=>J5 hs) ?_
  rintro⟨f,ps,s1,μ1,v⟩ ⟨j,l,c,af,hf,hlen,hJ⟩;dsimp only at j l c af hf hlen hJ⊢;have aa:=hm.mono j;have ah:=c.lt;refine iZ 0 rfl ?_;rintro A1 c1 rfl ad;by_cases hc:s1.e=0∧isR E s1 ⟨#[44]⟩=true
  ·obtain⟨f,rfl⟩:∃g,f=g+1:=⟨f-1,by have:=hf hc.1;omega⟩;rw[pA,if_pos hc]at hJ;unfold bd at hJ;have e2:cH E ⟨#[44]⟩ s1=bJ E s1:=by unfold cH;rw[if_pos hc.2]
   obtain⟨s2,e3,m2,i2,t2,o2,-⟩:=aT hE (mv0 c) (cY hc.2);have ab:=m2.inn c;rw[e3]at e2 hJ;have hA:=hw.asg bi 0 s2 μ1 ab (fun h=>absurd h (by decide)) (by omega) aa;have mA:=(uK hr bi ab (by omega)).mv;generalize r.asg bi 0 s2=q2 at hA hJ mA;obtain⟨x,s3⟩:=q2;dsimp only at hA hJ mA;have l3:=mA.le;have ag:=mA.inn ab;try repeat' (first|refine KO ?_|(refine CF 53 ?_;refine HP2 3 rfl (e2▸lF c.lt aa _) ?_;dsimp only[ca,na])|refine KZ ?_|(refine KB ?_ ?_<;>intro hp))
   all_goals try(exfalso;simp_all;done)
   refine aW 9 _ (by kernel_rfl) rfl (aG (aG (aG (aG aU)))) ?_;all_goals(refine DD 0 ?_;refine DD 2 ?_;refine DD 3 ?_)
   refine dS 1 4 (by kernel_rfl) ?dr3_1 ?dr3_4
   case' dr3_1=>
    (((with_reducible apply bS);(iterate 4 exact rfl);(((with_reducible apply gT);exact rfl;(repeat first|with_reducible exact bT|with_reducible apply cG);exact rfl))))
    all_goals(refine D3 4 ?_;refine D5 ?_;refine CF 35 ?_;refine HR3 3 rfl hA ?_;(rintro v2 μ2 d ⟨u2,rfl,o⟩;have o2:=o.one);dsimp only[ca,na];refine D9 ?_)
    all_goals(refine D3 5 ?_;refine D5 ?_;refine NB fun b=>?_;refine D9 ?_)
    all_goals(refine D3 6 ?_;refine D5 ?_;(refine XAP fun v=>?_;refine bB 1 rfl ?_;rintro A2 c2 rfl p);refine D9 ?_)
    all_goals(refine DD 7 ?_;refine D3 8 ?_;refine D5 ?_;refine Y0 ?_;refine D9 ?_;refine D8 ?_)
   case' dr3_4=>
    (refine D5 ?_;refine CF 35 ?_;refine HR3 3 rfl hA ?_;(rintro v2 μ2 d ⟨u2,rfl,o⟩;have o2:=o.one);dsimp only[ca,na];refine D9 ?_)
    refine dS 1 5 (by kernel_rfl) ?dr4_1 ?dr4_5
    case' dr4_1=>
     (((with_reducible apply bS);(iterate 4 exact rfl);(((with_reducible apply gT);exact rfl;(repeat first|with_reducible exact bT|with_reducible apply cG);exact rfl))))
     all_goals(refine D3 5 ?_;refine D5 ?_;refine NB fun b=>?_;refine D9 ?_)
     all_goals(refine D3 6 ?_;refine D5 ?_;(refine XAP fun v=>?_;refine bB 1 rfl ?_;rintro A2 c2 rfl p);refine D9 ?_)
     all_goals(refine DD 7 ?_;refine D3 8 ?_;refine D5 ?_;refine Y0 ?_;refine D9 ?_;refine D8 ?_)
    case' dr4_5=>
     (refine D5 ?_;refine NB fun b=>?_;refine D9 ?_)
     all_goals(refine D3 1 ?_;(with_reducible apply bS);(iterate 4 exact rfl);(((with_reducible apply gT);exact rfl;(repeat first|with_reducible exact bT|with_reducible apply cG);exact rfl)))
     all_goals(refine D3 6 ?_;refine D5 ?_;(refine XAP fun v=>?_;refine bB 1 rfl ?_;rintro A2 c2 rfl p);refine D9 ?_)
     all_goals(refine DD 7 ?_;refine D3 8 ?_;refine D5 ?_;refine Y0 ?_;refine D9 ?_;refine D8 ?_)
   all_goals try repeat' (refine KZ ?_)
   all_goals refine dZ (f,ps++[(x,u2)],s3,μ2,.slice A2 (ps.length+1) c2) ⟨j.trans d,Kids.app (l.mono d) (Kids.single o),ag,by dsimp only;omega,fun e=>?_,by simp only[aB,aF,aL];omega,by dsimp only;rw[aE];exact hJ⟩ (by dsimp only;omega) rfl PU ?_
   all_goals first|(have e1:=mA.ok e;have e4:=hf (by omega);dsimp only;omega)|(dsimp only;rw[aB,aD];exact PS)
  ·have ae:pA E r bi f (ps.map (·.1)) s1=(ps.map (·.1),s1):=by
    cases f with
    |zero=>rfl
    |succ f=>rw[pA,if_neg hc]
   rw[ae]at hJ;subst hJ;have e2:s1.e=0→cH E ⟨#[44]⟩ s1=s1:=fun he=>by unfold cH;rw[if_neg (fun h=>hc ⟨he,h⟩)]
   by_cases he:s1.e=0
   ·have e3:=e2 he;try repeat' (first|refine KO ?_|(refine CF 53 ?_;refine HP2 3 rfl (e3▸lF c.lt aa _) ?_;dsimp only[ca,na])|refine KZ ?_|(refine KB ?_ ?_<;>intro hp))
    all_goals try(exfalso;simp_all;done)
    exact eS 3 k rfl (by exact(RG 2 rfl rfl rfl rfl rfl)) rfl (.refl _) fun μ' hle y=>⟨.slice A1 ps.length c1,rfl,KR.bI (bD (enc:=bV) (xs:=ps) (y _ (aA)) rfl (by simp) rfl) ad.cap (l.mono hle)⟩
   ·try repeat' (refine KZ ?_)
    all_goals try(exfalso;simp_all;done)
    exact eS 3 k rfl (by exact(RG 2 rfl rfl rfl rfl rfl)) rfl (.refl _) fun μ' hle y=>⟨.slice A1 ps.length c1,rfl,KR.bI (bD (enc:=bV) (xs:=ps) (y _ (aA)) rfl (by simp) rfl) ad.cap (l.mono hle)⟩
 ·rw[if_neg h]at z;subst z;refine aC Tryz.func34 rfl Tryz.ntmps34 (by simp) hμ hO ?_;try repeat' (first|refine KO ?_|(refine CF 23 ?_;refine HP2 2 rfl (gY hi.lt hm _) ?_;dsimp only[ca,na])|refine KZ ?_|refine NB fun b=>?_|(refine KB ?_ ?_<;>intro hp))
  all_goals try(exfalso;simp_all;done)
  exact nS 2 k rfl (by exact(RG 0 rfl rfl rfl rfl rfl)) rfl rfl fun μ' hle=>⟨_,rfl,hk.mono hle⟩
end
end
section
open Go.RowKit Go.Vcg
attribute [local irreducible] jE G GC GQ GA dV Calls IntKind.wrap Int.decLt Int.decLe
section
variable{E:TkE}{src:ByteArray}{V:RPl}{xb n:Nat}{r:RdR}{s:RdS}{μ:Mem}(hE:TOk E src)(hr:nB E src n r)(hw:rO E src V xb n r)(hi:In E src s)(hm:RM E V μ)
include hE hr hw hi hm
theorem lO(bi:Bool)(hn:8*(E.ts.length-s.i)+5≤n):zCR E V xb 16 [.pointer (some ⟨xb,0,none⟩),.bool bi] s (gN E r bi s).2 μ (fun μ' v=>TV μ' (gN E r bi s).1 v):=by
 intro w hμ o;have j:=bF o.diff;generalize a:gN E r bi s=q;unfold gN bd at a;dsimp only at a;have h1:=hw.asg bi 0 s μ hi (fun h=>absurd h (by decide)) (by omega) hm;have m1:=(hr.asg bi 0 s hi (fun h=>absurd h (by decide)) (by omega)).mv;generalize r.asg bi 0 s=p9 at a h1 m1;obtain⟨x1,s1⟩:=p9;dsimp only at a h1 m1;have k:=m1.inn hi;have l1:=m1.le;have t1:=m1.lt;subst a;refine aC Tryz.func16 rfl Tryz.ntmps16 (by simp) hμ o ?_;try repeat' (first|refine KO ?_|(refine CF 35 ?_;refine HR3 1 rfl h1 ?_;(rintro v1 μ1 c ⟨u1,rfl,g⟩;have o_u1:=g.one);dsimp only[ca,na])|(refine CF 34 ?_;refine HR3 1 rfl (HH hE hr hw k (hm.mono c) bi x1 u1 g (by omega)) ?_;(rintro v2 μ2 l ⟨u2,rfl,d⟩;have o_u2:=d.one);dsimp only[ca,na])|refine KZ ?_|refine XS0 ?_|refine NB fun b=>?_)
 exact nS 1 j rfl (by exact(RG 0 rfl rfl rfl rfl rfl)) rfl rfl fun μ' hle=>⟨_,rfl,d.mono hle⟩
theorem DR(t:T)(u:Value)(hk:KR μ t.kids u)(o:(aJ E s).k≠0)(hn:8*(E.ts.length-s.i)≤n+3):zCR E V xb 160 [.pointer (some ⟨xb,0,none⟩),.agg (dG t u).toArray] s (nX E r t s).2 μ (fun μ' v=>TV μ' (nX E r t s).1 v):=by
 intro w hμ p;have j:=bF p.diff;have hl:=hi.lt;have ou:=hk.one;generalize c:nX E r t s=q;unfold nX bd at c;dsimp only at c;obtain⟨s1,e1,m1,i1,t1,o1,-⟩:=aT hE (mv0 hi) o;have g:=m1.inn hi;rw[e1]at c;have h2:=lO hE hr hw g hm true (by omega);have m2:=(iS hE hr true g (by omega)).mv;generalize gN E r true s1=p9 at c h2 m2;obtain⟨x2,s2⟩:=p9;dsimp only at c h2 m2;have d:=m2.inn g;have l2:=m2.le;have t2:=m2.lt;obtain⟨s3,e3,m3,l3,t3,o3⟩:=bW hE (mv0 d) ⟨#[93]⟩;have x:=m3.inn d;rw[e3]at c;subst c;refine aC Tryz.func160 rfl Tryz.ntmps160 (by simp) hμ p ?_;try repeat' (first|refine KO ?_|(refine CF 42 ?_;refine HP1 2 rfl (e1▸fH hi.lt hm) ?_;dsimp only[ca,na])|(refine CF 16 ?_;refine HR2 2 rfl h2 ?_;(rintro v2 μ2 a ⟨u2,rfl,h⟩;have o_u2:=h.one);dsimp only[ca,na])|(refine CF 65 ?_;refine HU2 3 rfl (e3▸fJ d.lt (hm.mono a) _) ?_;intro v9;dsimp only[ca,na])|refine KZ ?_|refine XS0 ?_|refine NB fun b=>?_)
 exact eS 4 j rfl (by exact(RG 2 rfl rfl rfl rfl rfl)) rfl (.refl _) fun μ' hle l=>⟨_,rfl,KR.lit [(t,u),(x2,u2)] (l _ (aA)) rfl (by repeat first|exact bH|refine bA rfl ?_) (Kids.two ((hk.mono a).mono hle) (h.mono hle))⟩
theorem qW(hn:8*(E.ts.length-s.i)+5≤n):zCR E V xb 114 [.pointer (some ⟨xb,0,none⟩)] s (jJ E r s).2 μ (fun μ' v=>TV μ' (jJ E r s).1 v):=by
 intro w hμ u;have j:=bF u.diff;have hl:=hi.lt;generalize c:jJ E r s=q;unfold jJ bd at c;dsimp only at c;have h1:=hw.tar s μ hi hn hm;have m1:=(hr.tar s hi hn).mv;generalize r.tar s=p9 at c h1 m1;obtain⟨x1,s1⟩:=p9;dsimp only at c h1 m1;have g:=m1.inn hi;have l1:=m1.le;have t1:=m1.lt;by_cases h:isR E s1 ⟨#[61]⟩=true
 ·rw[if_pos h]at c;have ee:cH E ⟨#[61]⟩ s1=bJ E s1:=by unfold cH;rw[if_pos h]
  obtain⟨s2,e2,m2,i2,t2,o2,-⟩:=aT hE (mv0 g) (cY h);have k:=m2.inn g;rw[e2]at c;rw[e2]at ee;have h3:=fun(μ9:Mem) (a:MLe μ μ9)=>hw.asg true 0 s2 μ9 k (fun h=>absurd h (by decide)) (by omega) (hm.mono a);have m3:=(hr.asg true 0 s2 k (fun h=>absurd h (by decide)) (by omega)).mv;generalize r.asg true 0 s2=p9 at c h3 m3;obtain⟨x3,s3⟩:=p9;dsimp only at c h3 m3;have x:=m3.inn k;have l3:=m3.le;have t3:=m3.lt;subst c;refine aC Tryz.func114 rfl Tryz.ntmps114 (by simp) hμ u ?_;try repeat' (first|refine KO ?_|(refine CF 111 ?_;refine HR1 1 rfl h1 ?_;(rintro v1 μ1 a ⟨u1,rfl,d⟩;have o_u1:=d.one);dsimp only[ca,na])|(refine CF 53 ?_;refine HP2 2 rfl (ee▸lF g.lt (hm.mono a) _) ?_;dsimp only[ca,na])|refine KZ ?_|refine XS0 ?_|refine XS1 ?_|refine NB fun b=>?_|(refine KB ?_ ?_<;>intro hp))
  all_goals try(exfalso;simp_all;done)
  refine aW 8 _ (by kernel_rfl) rfl (aK (aG (aG aU))) ?_;all_goals(refine DD 0 ?_;refine DD 1 ?_;refine DD 2 ?_;refine DD 3 ?_)
  all_goals(refine D3 4 ?_;refine D5 ?_;refine CF 35 ?_;refine HR3 2 rfl (h3 _ a) ?_;(rintro v3 μ3 l ⟨u3,rfl,o⟩;have o_u3:=o.one);dsimp only[ca,na];refine D9 ?_)
  all_goals(refine D3 5 ?_;refine D5 ?_;refine NB fun b=>?_;refine D9 ?_;refine DD 6 ?_;refine D3 7 ?_;refine D5 ?_;refine Y0 ?_;refine D9 ?_;refine D8 ?_)
  try repeat' (refine KZ ?_)
  exact eS 3 j rfl (by exact(RG 2 rfl rfl rfl rfl rfl)) rfl (.refl _) fun μ' hle p=>⟨_,rfl,KR.lit [(x1,u1),(x3,u3)] (p _ (aA)) rfl (by repeat first|exact bH|refine bA rfl ?_) (Kids.two ((d.mono l).mono hle) (o.mono hle))⟩
 ·rw[if_neg h]at c;have ee:cH E ⟨#[61]⟩ s1=s1:=by unfold cH;rw[if_neg h]
  subst c;refine aC Tryz.func114 rfl Tryz.ntmps114 (by simp) hμ u ?_;try repeat' (first|refine KO ?_|(refine CF 111 ?_;refine HR1 1 rfl h1 ?_;(rintro v1 μ1 a ⟨u1,rfl,d⟩;have o_u1:=d.one);dsimp only[ca,na])|(refine CF 53 ?_;refine HP2 2 rfl (ee▸lF g.lt (hm.mono a) _) ?_;dsimp only[ca,na])|refine KZ ?_|refine XS0 ?_|refine XS1 ?_|refine NB fun b=>?_|(refine KB ?_ ?_<;>intro hp))
  all_goals try(exfalso;simp_all;done)
  exact nS 2 j rfl (by exact(RG 1 rfl rfl rfl rfl rfl)) rfl rfl fun μ' hle=>⟨_,rfl,d.mono hle⟩
end
end
section
open Go.RowKit Go.Vcg
theorem IF(E:TkE)(r:RdR):∀(f:Nat) (acc:List T) (s:RdS),(wH E r f acc s).1.length≤acc.length+f
 |0,acc,s=>aP _
 | f +1,acc,s=>by
   rw[wH];split
   ·generalize (if isR E s ⟨#[46,46,46]⟩=true then bd (r.asg true 0 (bJ E s)) fun v s1=>(nd 41 (aJ E s).at' [v],s1)else r.asg true 0 s)=p;obtain⟨v,s1⟩:=p;unfold bd;dsimp only;split
    ·have h:=IF E r f (acc++[v]) (bJ E s1);rw[aB]at h;exact bO h (by show acc.length+1+f≤_;omega)
    ·rw[aB];show acc.length+1≤_
     omega
   ·exact Nat.le_add_right _ _
theorem AL(E:TkE)(r:RdR)(s:RdS):(tD E r s).1.length≤E.ts.length+1:=by
 have h:=IF E r (E.ts.length+1) [] (eP E ⟨#[40]⟩ s);unfold tD bd;dsimp only;rw[aL]at h;omega
attribute [local irreducible] jE G GC GQ GA dV Calls IntKind.wrap Int.decLt Int.decLe
section
variable{E:TkE}{src:ByteArray}{V:RPl}{xb n:Nat}{r:RdR}{s:RdS}{μ:Mem}(hE:TOk E src)(hr:nB E src n r)(hw:rO E src V xb n r)(hi:In E src s)(hm:RM E V μ)
include hE hr hw hi hm
theorem IY(hn:8*(E.ts.length-s.i)≤n+3):zCR E V xb 164 [.pointer (some ⟨xb,0,none⟩)] s (tD E r s).2 μ (fun μ' v=>KR μ' (tD E r s).1 v):=by
 intro w hμ hO;have x:=bF hO.diff;have hl:=hi.lt;have ai:=hm.few;generalize hq:tD E r s=q;unfold tD bd at hq;dsimp only at hq;obtain⟨s1,e1,m1,l1,t1,o1⟩:=bW hE (mv0 hi) ⟨#[40]⟩;have ah:=m1.inn hi;rw[e1]at hq;generalize hQ:wH E r (E.ts.length+1) [] s1=Q at hq;refine aC Tryz.func164 rfl Tryz.ntmps164 (by simp) hμ hO ?_;try repeat' (first|refine KO ?_|(refine CF 65 ?_;refine HU2 0 rfl (e1▸fJ hi.lt (hm.mono ML) _) ?_;intro v9;dsimp only[ca,na]))
 refine dH (ι:=Nat×List (T×Value)×RdS×Mem×Value) (fun i=>MLe μ i.2.2.2.1∧Kids i.2.2.2.1 i.2.1∧In E src i.2.2.1∧(i.2.2.1.e=0→8*(E.ts.length-i.2.2.1.i)+5≤n)∧(i.2.2.1.e=0→E.ts.length-i.2.2.1.i<i.1)∧i.2.1.length+i.1=E.ts.length+1∧Q=wH E r i.1 (i.2.1.map (·.1)) i.2.2.1)
  (fun i=>i.1) (fun i=>i.2.2.2.1) (fun i=>[(0,.pointer (some ⟨xb,0,none⟩)),(3,i.2.2.2.2)]) (fun i=>[.inr ⟨i.2.2.2.2,25,6,i.2.1.length,i.2.1.flatMap bV⟩,RB E V xb i.2.2.1])
  (E.ts.length+1,[],s1,μ,.slice none 0 0) ⟨MLe.refl _,Kids.nil _,ah,fun e=>by have:=o1 e;dsimp only;omega,fun _=>by dsimp only;omega,by simp,hQ.symm⟩ (fun a w hs=>(hs.kU 25 6).sel PU PS) ?_
 rintro⟨f,ps,s2,μ2,v⟩ ⟨H2,j,d,aa,hf,hlen,hJ⟩;dsimp only at H2 j d aa hf hlen hJ⊢;have t2:=d.lt;refine iZ 0 rfl ?_;rintro A1 c1 rfl ae;by_cases hc:s2.e=0∧isR E s2 ⟨#[41]⟩=false
 ·obtain⟨f,rfl⟩:∃g,f=g+1:=⟨f-1,by have:=hf hc.1;omega⟩;have aa:=aa hc.1;have hf:=hf hc.1;rw[wH,if_pos hc]at hJ;by_cases z:isR E s2 ⟨#[46,46,46]⟩=true
  ·rw[if_pos z]at hJ;unfold bd at hJ;dsimp only at hJ;obtain⟨s3,e3,m3,i3,t3,o3,-⟩:=aT hE (mv0 d) (cY z);have ad:=m3.inn d;rw[e3]at hJ;have h4:=fun(μ9:Mem) (h9:MLe μ μ9)=>hw.asg true 0 s3 μ9 ad (fun h=>absurd h (by decide)) (by omega) (hm.mono h9);have m4:=(hr.asg true 0 s3 ad (fun h=>absurd h (by decide)) (by omega)).mv;generalize r.asg true 0 s3=p9 at hJ h4 m4;obtain⟨x4,s4⟩:=p9;dsimp only at hJ h4 m4;have l:=m4.inn ad;have l4:=m4.le;have t4:=m4.lt;by_cases o:isR E s4 ⟨#[44]⟩=true
   ·rw[if_pos o]at hJ;have ee:cH E ⟨#[44]⟩ s4=bJ E s4:=by unfold cH;rw[if_pos o]
    obtain⟨s5,e5,m5,i5,t5,o5,-⟩:=aT hE (mv0 l) (cY o);have ab:=m5.inn l;rw[e5]at hJ ee;try repeat' (first|refine KO ?_|(refine CF 23 ?_;refine HP2 1 rfl (gY d.lt (hm.mono ML) _) ?_;dsimp only[ca,na])|(refine CF 42 ?_;refine HP1 1 rfl (e3▸fH d.lt (hm.mono ML)) ?_;dsimp only[ca,na])|(refine CF 35 ?_;refine HR3 1 rfl (h4 _ ML) ?_;(rintro v4 μ4 c ⟨u4,rfl,k⟩;have o_u4:=k.one;have H4:MLe μ μ4:=MLe.trans ML c;have j:=j.mono c);dsimp only[ca,na])|(refine CF 53 ?_;refine HP2 3 rfl (ee▸lF l.lt (hm.mono ML) _) ?_;dsimp only[ca,na])|refine KZ ?_|(refine XAP fun v=>?_;refine bB 2 rfl ?_;rintro A2 c2 rfl u)|refine NB fun b=>?_|(refine KB ?_ ?_<;>intro hp))
    all_goals try(exfalso;simp_all;done)
    rename_i b1;refine rG rfl fun μ5 y p=>?_;have ag:KR μ5 [x4] (.slice (some ⟨b1,0,none⟩) 1 1):=KR.lit [(x4,u4)] p rfl (by repeat first|exact bH|refine bA rfl ?_) (Kids.single (k.mono y));refine dZ (f,ps++[(nd 41 (aJ E s2).at' [x4],Value.slice (some ⟨b1,0,none⟩) 1 1)],s5,μ5,.slice A2 (ps.length+1) c2) ⟨H4.trans y,Kids.app (j.mono y) (Kids.single ag),ab,fun e=>by dsimp only at e⊢;omega,fun e=>by dsimp only at e⊢;omega,by simp only[aB,aF,aL];omega,by dsimp only;rw[aE];exact hJ⟩ (by dsimp only;omega) rfl PU (by dsimp only;rw[aB,aD];exact PS)
   ·rw[if_neg o]at hJ;have ee:cH E ⟨#[44]⟩ s4=s4:=by unfold cH;rw[if_neg o]
    subst hJ hq;try repeat' (first|refine KO ?_|(refine CF 23 ?_;refine HP2 1 rfl (gY d.lt (hm.mono ML) _) ?_;dsimp only[ca,na])|(refine CF 42 ?_;refine HP1 1 rfl (e3▸fH d.lt (hm.mono ML)) ?_;dsimp only[ca,na])|(refine CF 35 ?_;refine HR3 1 rfl (h4 _ ML) ?_;(rintro v4 μ4 c ⟨u4,rfl,k⟩;have o_u4:=k.one;have H4:MLe μ μ4:=MLe.trans ML c;have j:=j.mono c);dsimp only[ca,na])|(refine CF 53 ?_;refine HP2 3 rfl (ee▸lF l.lt (hm.mono ML) _) ?_;dsimp only[ca,na])|(refine CF 65 ?_;refine HU2 3 rfl (fJ l.lt (hm.mono ML) _) ?_;intro v9;dsimp only[ca,na])|refine KZ ?_|(refine XAP fun v=>?_;refine bB 2 rfl ?_;rintro A2 c2 rfl u)|refine NB fun b=>?_|(refine KB ?_ ?_<;>intro hp))
    all_goals try(exfalso;simp_all;done)
    rename_i b1;exact eS 3 x rfl (aN rfl) rfl (.refl _) fun μ' hle p=>(by have h8:=KR.bI (bD (enc:=bV) (xs:=ps++[(nd 41 (aJ E s2).at' [x4],Value.slice (some ⟨b1,0,none⟩) 1 1)]) (p _ (aS (aS (aA)))) (by simp) (by simp) (by rw[aD];rfl)) u.cap (Kids.app (j.mono hle) (Kids.single (KR.lit [(x4,u4)] (p _ (aS (aA))) rfl (by repeat first|exact bH|refine bA rfl ?_) (Kids.single (k.mono hle)))));rw[aE]at h8;exact h8)
  ·rw[if_neg z]at hJ;unfold bd at hJ;dsimp only at hJ;have h4:=fun(μ9:Mem) (h9:MLe μ μ9)=>hw.asg true 0 s2 μ9 d (fun h=>absurd h (by decide)) (by omega) (hm.mono h9);have m4:=(hr.asg true 0 s2 d (fun h=>absurd h (by decide)) (by omega)).mv;generalize r.asg true 0 s2=p9 at hJ h4 m4;obtain⟨x4,s4⟩:=p9;dsimp only at hJ h4 m4;have l:=m4.inn d;have l4:=m4.le;have t4:=m4.lt;by_cases o:isR E s4 ⟨#[44]⟩=true
   ·rw[if_pos o]at hJ;have ee:cH E ⟨#[44]⟩ s4=bJ E s4:=by unfold cH;rw[if_pos o]
    obtain⟨s5,e5,m5,i5,t5,o5,-⟩:=aT hE (mv0 l) (cY o);have ab:=m5.inn l;rw[e5]at hJ ee;try repeat' (first|refine KO ?_|(refine CF 23 ?_;refine HP2 1 rfl (gY d.lt (hm.mono ML) _) ?_;dsimp only[ca,na])|(refine CF 35 ?_;refine HR3 1 rfl (h4 _ ML) ?_;(rintro v4 μ4 c ⟨u4,rfl,k⟩;have o_u4:=k.one;have H4:MLe μ μ4:=MLe.trans ML c;have j:=j.mono c);dsimp only[ca,na])|(refine CF 53 ?_;refine HP2 2 rfl (ee▸lF l.lt (hm.mono ML) _) ?_;dsimp only[ca,na])|refine KZ ?_|(refine XAP fun v=>?_;refine bB 1 rfl ?_;rintro A2 c2 rfl u)|refine NB fun b=>?_|(refine KB ?_ ?_<;>intro hp))
    all_goals try(exfalso;simp_all;done)
    refine dZ (f,ps++[(x4,u4)],s5,μ4,.slice A2 (ps.length+1) c2) ⟨H4,Kids.app j (Kids.single k),ab,fun e=>by dsimp only at e⊢;omega,fun e=>by dsimp only at e⊢;omega,by simp only[aB,aF,aL];omega,by dsimp only;rw[aE];exact hJ⟩ (by dsimp only;omega) rfl PU (by dsimp only;rw[aB,aD];exact PS)
   ·rw[if_neg o]at hJ;have ee:cH E ⟨#[44]⟩ s4=s4:=by unfold cH;rw[if_neg o]
    subst hJ hq;try repeat' (first|refine KO ?_|(refine CF 23 ?_;refine HP2 1 rfl (gY d.lt (hm.mono ML) _) ?_;dsimp only[ca,na])|(refine CF 35 ?_;refine HR3 1 rfl (h4 _ ML) ?_;(rintro v4 μ4 c ⟨u4,rfl,k⟩;have o_u4:=k.one;have H4:MLe μ μ4:=MLe.trans ML c;have j:=j.mono c);dsimp only[ca,na])|(refine CF 53 ?_;refine HP2 2 rfl (ee▸lF l.lt (hm.mono ML) _) ?_;dsimp only[ca,na])|(refine CF 65 ?_;refine HU2 2 rfl (fJ l.lt (hm.mono ML) _) ?_;intro v9;dsimp only[ca,na])|refine KZ ?_|(refine XAP fun v=>?_;refine bB 1 rfl ?_;rintro A2 c2 rfl u)|refine NB fun b=>?_|(refine KB ?_ ?_<;>intro hp))
    all_goals try(exfalso;simp_all;done)
    exact eS 2 x rfl (aN rfl) rfl (.refl _) fun μ' hle p=>(by have h8:=KR.bI (bD (enc:=bV) (xs:=ps++[(x4,u4)]) (p _ (aS (aA))) (by simp) (by simp) (by rw[aD];rfl)) u.cap (Kids.app (j.mono hle) (Kids.single (k.mono hle)));rw[aE]at h8;exact h8)
 ·have af:wH E r f (ps.map (·.1)) s2=(ps.map (·.1),s2):=by
   cases f with
   |zero=>rfl
   |succ f=>rw[wH,if_neg hc]
  rw[af]at hJ;subst hJ hq;by_cases he:s2.e=0
  ·have h9:isR E s2 ⟨#[41]⟩=true:=by simpa[he]using hc
   try repeat' (first|refine KO ?_|(refine CF 23 ?_;refine HP2 1 rfl (gY d.lt (hm.mono ML) _) ?_;dsimp only[ca,na])|(refine CF 65 ?_;refine HU2 1 rfl (fJ d.lt (hm.mono ML) _) ?_;intro v9;dsimp only[ca,na])|refine KZ ?_|(refine KB ?_ ?_<;>intro hp))
   all_goals try(exfalso;simp_all;done)
   exact eS 1 x rfl (aN rfl) rfl (.refl _) fun μ' hle p=>KR.bI (bD (enc:=bV) (xs:=ps) (p _ (aA)) rfl (by simp) rfl) ae.cap (j.mono hle)
  ·try repeat' (first|refine KO ?_|(refine CF 65 ?_;refine HU2 1 rfl (fJ d.lt (hm.mono ML) _) ?_;intro v9;dsimp only[ca,na])|refine KZ ?_)
   all_goals try(exfalso;simp_all;done)
   exact eS 1 x rfl (aN rfl) rfl (.refl _) fun μ' hle p=>KR.bI (bD (enc:=bV) (xs:=ps) (p _ (aA)) rfl (by simp) rfl) ae.cap (j.mono hle)
theorem SC(t:T)(u:Value)(hk:KR μ t.kids u)(hn:8*(E.ts.length-s.i)≤n+3):zCR E V xb 161 [.pointer (some ⟨xb,0,none⟩),.agg (dG t u).toArray] s (wD E r t s).2 μ (fun μ' v=>TV μ' (wD E r t s).1 v):=by
 intro w hμ hO;have o:=bF hO.diff;have hl:=hi.lt;have aa:=hm.few;have ou:=hk.one;generalize k:wD E r t s=q;unfold wD bd at k;dsimp only at k;have h1:=IY hE hr hw hi hm hn;have g1:=AL E r s;generalize tD E r s=p9 at k h1 g1;obtain⟨l1,s1⟩:=p9;dsimp only at k h1 g1;subst k;refine aC Tryz.func161 rfl Tryz.ntmps161 (by simp) hμ hO ?_;try repeat' (first|refine KZ ?_|refine NB fun b=>?_)
 refine aW 9 _ (by kernel_rfl) rfl (aG (aK (aG aU))) ?_;all_goals(refine DD 0 ?_;refine DD 1 ?_;refine DD 2 ?_;refine DD 4 ?_)
 refine dS 3 5 (by kernel_rfl) ?dr5_3 ?dr5_5
 case' dr5_3=>
  (refine D5 ?_;refine NB fun b=>?_;refine D9 ?_)
  all_goals(refine D3 5 ?_;refine D5 ?_;(refine CF 164 ?_;refine HR1 3 rfl h1 ?_;(rintro v1 μ1 c h;have hk:=hk.mono c;obtain⟨A1,c1,ps,rfl,j,g,p,a⟩:=h.sl;have y:=Kids.one a;have z:=fP kD ps;have l:=p.1);dsimp only[ca,na]);refine D9 ?_)
  all_goals(refine D3 6 ?_;refine D5 ?_;(((refine oO 1 6 rfl rfl (by decide) ?_);(with_reducible apply pJ);(iterate 3 exact rfl);(repeat with_reducible exact eO);(iterate 6 exact rfl);(((with_reducible apply tM);exact rfl;exact p;exact fun _ _=>rfl));omega;(assumption);omega;omega;intro v;  (refine bB 0 rfl ?_);rintro A2 c2 rfl d));refine D9 ?_)
  all_goals(refine DD 7 ?_;refine D3 8 ?_;refine D5 ?_;refine Y0 ?_;refine D9 ?_;refine D8 ?_)
 case' dr5_5=>
  (refine D5 ?_;(refine CF 164 ?_;refine HR1 2 rfl h1 ?_;(rintro v1 μ1 c h;have hk:=hk.mono c;obtain⟨A1,c1,ps,rfl,j,g,p,a⟩:=h.sl;have y:=Kids.one a;have z:=fP kD ps;have l:=p.1);dsimp only[ca,na]);refine D9 ?_)
  all_goals(refine D3 3 ?_;refine D5 ?_;refine NB fun b=>?_;refine D9 ?_)
  all_goals(refine D3 6 ?_;refine D5 ?_;(((refine oO 1 6 rfl rfl (by decide) ?_);(with_reducible apply pJ);(iterate 3 exact rfl);(repeat with_reducible exact eO);(iterate 6 exact rfl);(((with_reducible apply tM);exact rfl;exact p;exact fun _ _=>rfl));omega;(assumption);omega;omega;intro v;  (refine bB 0 rfl ?_);rintro A2 c2 rfl d));refine D9 ?_)
  all_goals(refine DD 7 ?_;refine D3 8 ?_;refine D5 ?_;refine Y0 ?_;refine D9 ?_;refine D8 ?_)
 all_goals try repeat' (refine KZ ?_)
 all_goals exact eS 3 o rfl (by exact(RG 1 rfl rfl rfl rfl rfl)) rfl (.refl _) fun μ' hle x=>⟨_,rfl,by have h8:=KR.bI (bD (enc:=bV) (xs:=(t,u)::ps) (x _ (aA)) (by rw[aF,l];omega) (by simp) rfl) d.cap (Kids.cons (hk.mono hle) (Kids.mono a hle));rw[bE,g]at h8;exact h8⟩
end
end
end Go.Proofs.YtknieidhopbngaaGreat
