/- Package read: unary, binary, conditional expressions, assignments, climbing. -/
import Derived.Test.YtknieidhopbngaaGreatQat
import Derived.Test.YtknieidhopbngaaGreatQau
set_option maxRecDepth 20000
set_option maxHeartbeats 2000000
namespace Go.Vcg
open Go.RowKit
section
variable{P:Program}{X:Ctx}{Q:Exit→Act→World→Prop}{μ:Mem}{l:bG}{L Lr:List Bk}{w:World}
theorem GR{x1 x2 x3 y1 y2 y3:Bk}(h1:jC x1 y1)(h2:jC x2 y2)(h3:jC x3 y3):∀{Lr:List Bk},Sel (Lr++[x1,x2,x3]) (Lr++[y1,y2,y3])
 |[]=>jT h1 (jT h2 (jT h3 (.nil _)))
 |_::_=>jT (.refl _) (GR h1 h2 h3)
theorem aEn{fn:Func}{n:Nat}{r:ResultVar}{v:Value}{μ0:Mem}{M:List Nat}{R:Mem→Value→Prop}{x1 x2 x3 y1 y2 y3:Bk}(k:∀D,M.count D≤1)(hr:fn.results= #[r])(h:RV P μ l L r v)(hL:splitB (L.length-3) L=some (Lr,[y1,y2,y3]))(h1:jC x1 y1)(h2:jC x2 y2)(h3:jC x3 y3)
 (hp:∀μ',MLe μ μ' →(∀z∈Lr,Bk.sh z μ')→R μ' v):
 GQ ⟨w,μ0,M,n⟩ (bodyPost P fn (fun e w' =>∃(v:Value) (μ' :Mem) (_:Unit),e=.returned v∧iO M w w' μ0 [x1,x2,x3] μ' ∧R μ' v)) .ret μ l L:=fun a w' hs=>by
 have he:=iA hL;subst he;have i:=hs.sel (l' :=[]) eK (GR h1 h2 h3);obtain⟨μ1,c,d,g⟩:=St.qT i;obtain⟨μ2,hb,b⟩:=St.rH (L' :=[x1,x2,x3]) (Lr:=[]) g;exact⟨hs.defers.none k,v,results1 hr h hs.rd,v,μ2,(),rfl,hb,hp μ2 (c.trans b) fun z j=>Bk.wM (d z j) b⟩
end
end Go.Vcg
namespace Go.Proofs.YtknieidhopbngaaGreat
section
open Go.RowKit Go.Vcg
section
variable{E:TkE}{src:ByteArray}{s:RdS}(hE:TOk E src)(hi:In E src s)
include hE hi
theorem WV(k:T):∃s2,DA E k s=s2∧In E src s2∧s.i≤s2.i∧s2.i<E.ts.length:=by
 unfold DA;split
 ·exact lN hE hi _ _
 ·exact⟨_,rfl,hi,aP _,hi.lt⟩
theorem xX(t:T)(b:Bool):In E src (iY E t b s).2∧s.i≤(iY E t b s).2.i:=by
 have hw:=fun a e=>lN hE hi a e;unfold iY
 (repeat' split)<;>first|exact⟨hi,aP _⟩|(obtain⟨s2,rfl,h1,h2,-⟩:=hw t.at' 24;exact⟨h1,h2⟩)|(obtain⟨s2,rfl,h1,h2,-⟩:=hw t.at' (xY t).2;exact⟨h1,h2⟩)
end
section
variable{X:Ctx}{ops:Array Oper}{Q:Exit→Act→World→Prop}{rest:List Oper}{μ:Mem}{l:bG}{L Lr:List Bk}{o:Oper}{d:Nat}{xb nb lb:Nat}{s:RdS}{E:TkE}{V:RPl}{b x y:Bool}{kk:Int}{q:(T×Bool×Bool)×RdS}
theorem aFk(hd:o.dst=some d)(hn:Nat.blt d X.n=true)(hw:dW ops l o=some true)(hr:Ent Tryz.prog μ l L o 115 #[.pointer (some ⟨xb,0,none⟩),.bool b,.int .i64 kk,.pointer (some ⟨nb,0,none⟩),.pointer (some ⟨lb,0,none⟩)])(hL:splitB (L.length-3) L=some (Lr,[BB nb x,BB lb y,RB E V xb s]))(hc:CL E V xb nb lb b kk x y s q μ)
 (h:∀(v:Value) (μ' :Mem),MLe μ μ' →TV μ' q.1.1 v→G Tryz.prog X ops Q rest μ' ((d,v)::l) (Lr++[BB nb q.1.2.1,BB lb q.1.2.2,RB E V xb q.2])):G Tryz.prog X ops Q (o::rest) μ l L:=
 nN (ι:=Unit) (Ls:=fun _=>[BB nb q.1.2.1,BB lb q.1.2.2,RB E V xb q.2]) (Post:=fun μ' v _=>TV μ' q.1.1 v) _ hd hn hw hr hL (fun w hμ a=>hc w hμ a) fun v μ' _ hle hp=>h v μ' hle hp
end
theorem IV{P:Program}{μ:Mem}{l:bG}{L Lr:List Bk}{w:World}{fn:Func}{n:Nat}{r:ResultVar}{μ0:Mem}{M:List Nat}{x1 x2 x3 y1 y2 y3:Bk}{t:T}{u:Value}(b:∀D,M.count D≤1)(hr:fn.results= #[r])(h:RV P μ l L r (.agg (dG t u).toArray))(hL:splitB (L.length-3) L=some (Lr,[y1,y2,y3]))(h1:jC x1 y1)(h2:jC x2 y2)(h3:jC x3 y3)(hp:∀μ',MLe μ μ' →(∀z∈Lr,Bk.sh z μ')→KR μ' t.kids u):
 GQ ⟨w,μ0,M,n⟩ (bodyPost P fn (fun e w' =>∃(v:Value) (μ' :Mem) (_:Unit),e=.returned v∧iO M w w' μ0 [x1,x2,x3] μ' ∧TV μ' t v)) .ret μ l L:=aEn (R:=fun μ' v=>TV μ' t v) b hr h hL h1 h2 h3 fun μ' hle a=>⟨u,rfl,hp μ' hle a⟩
theorem aBh(b:Bool)(s:RdS){E:TkE}:0≤eI E b s∧eI E b s≤11:=by
 have h:∀x,0≤vF x∧vF x≤11:=fun x=>by
  unfold vF
  (repeat' split)<;>omega
 unfold eI;split
 ·omega
 ·exact h _
end
section
open Go.RowKit Go.Vcg
attribute [local irreducible] jE G GC GQ GA dV Calls IntKind.wrap Int.decLt Int.decLe
section
variable{E:TkE}{src:ByteArray}{V:RPl}{xb n:Nat}{r:RdR}{s:RdS}{μ:Mem}(hE:TOk E src)(hr:nB E src n r)(hw:rO E src V xb n r)(h8:∀b s,(r.stm b s).1.op=8→(r.stm b s).1.kids≠[])(hi:In E src s)(hm:RM E V μ)
include hE hr hw h8 hi hm
theorem XS(hn:8*(E.ts.length-s.i)+2≤n):zCR E V xb 128 [.pointer (some ⟨xb,0,none⟩)] s (xO E r s).2 μ (fun μ' v=>TV μ' (xO E r s).1 v):=by
 intro w hμ hO;have l:=bF hO.diff;have hl:=hi.lt;generalize a:xO E r s=q;unfold xO bd at a;try dsimp only at a
 by_cases h1:(cP E s ⟨#[100,101,108,101,116,101]⟩||cP E s ⟨#[118,111,105,100]⟩||cP E s ⟨#[116,121,112,101,111,102]⟩||isR E s ⟨#[43]⟩||isR E s ⟨#[45]⟩||isR E s ⟨#[33]⟩||isR E s ⟨#[126]⟩)=true
 ·rw[if_pos h1]at a;obtain⟨s1,e1,m1,i1,t1,o1,-⟩:=aT hE (mv0 hi) (by simp only[aY]at h1;rcases h1 with(((((h|h)|h)|h)|h)|h)|h<;>first|exact eC h|exact cY h);have d:=m1.inn hi;rw[e1]at a;have h2:=fun(μ9:Mem) (p:MLe μ μ9)=>hw.una _ μ9 d (by omega) (hm.mono p);have m2:=(hr.una _ d (by omega)).mv;generalize r.una s1=p9 at a h2 m2;obtain⟨x2,s2⟩:=p9;dsimp only at a h2 m2;have o:=m2.inn d;have l2:=m2.le;have t2:=m2.lt;subst a;refine aC Tryz.func128 rfl Tryz.ntmps128 (by simp) hμ hO ?_;try repeat' (first|((with_reducible show GC _ _ (Code.seq (Code.seq (Code.region 2 _ _) _) _) _ _ _ _);(apply dE))|refine KO ?_|(refine CF 22 ?_;refine GP1 rfl (bK (by assumption) (hm.mono ML)) ?_;dsimp only[ca,na])|refine KZ ?_|refine NB fun b=>?_)
  rename_i b2;refine fK (ι:=Bool) (fun c=>c=true) (fun _=>μ) (fun c=>[(7,.bool c),(0,.pointer (some ⟨xb,0,none⟩)),(2,.pointer (some ⟨b2,0,none⟩)),(3,.pointer (some ⟨b,0,none⟩))]) (fun _=>[.inl ⟨b,54,7,idx 0 (eB (aJ E s))⟩,.inl ⟨b2,25,6,[]⟩,RB E V xb s]) ?_ ?_
  ·try repeat' (first|refine KO ?_|(refine CF 23 ?_;refine GP2 rfl (dD (by assumption) (hm.mono ML) _) ?_;dsimp only[ca,na])|(refine CF 24 ?_;refine GP2 rfl (cS (by assumption) (hm.mono ML) _) ?_;dsimp only[ca,na])|(refine KB ?_ ?_<;>intro hp))
   all_goals(refine J1 _ ?_;first|assumption|(simp_all;done))
  rintro _ rfl;try dsimp only
  try repeat' (first|refine KO ?_|(refine CF 42 ?_;refine GP1 rfl (bN (by assumption) (by assumption) (hm.mono ML)) ?_;dsimp only[ca,na]))
  refine aW 9 _ (by kernel_rfl) rfl (aK (aG (aG aU))) ?_;all_goals(refine DD 0 ?_;refine DD 1 ?_;refine DD 2 ?_;refine DD 3 ?_;refine DD 4 ?_)
  all_goals(refine D3 5 ?_;refine D5 ?_;(refine CF 128 ?_;refine GR1 rfl (h2 _ ML) ?_;(rintro v2 μ2 y ⟨u2,rfl,j⟩;have o_u2:=j.one;have H2:MLe μ μ2:=MLe.trans ML y);dsimp only[ca,na]);refine D9 ?_)
  all_goals(refine D3 6 ?_;refine D5 ?_;refine NB fun b=>?_;refine D9 ?_;refine DD 7 ?_;refine D3 8 ?_;refine D5 ?_;refine Y0 ?_;refine D9 ?_;refine D8 ?_)
  all_goals try repeat' (refine KO ?_)
  all_goals(apply aX l rfl;exact(RG 2 rfl rfl rfl rfl rfl);exact rfl;exact .refl _;exact fun μ' hle ab=>KR.eT [(x2,u2)] (ab _ (by exact(aA))) rfl (by repeat first|exact bH|refine bA rfl ?_) (Kids.cons (j.mono hle) (Kids.nil _)))
 ·rw[if_neg h1]at a;have ai:=eq_false_of_ne_true h1;simp only[aY,not_or,jR]at h1;obtain⟨⟨⟨⟨⟨⟨n1,n2⟩,n3⟩,n4⟩,n5⟩,n6⟩,n7⟩:=h1;by_cases h2:(isR E s ⟨#[43,43]⟩||isR E s ⟨#[45,45]⟩)=true
  ·rw[if_pos h2]at a;obtain⟨s1,e1,m1,i1,t1,o1,-⟩:=aT hE (mv0 hi) (by simp only[aY]at h2;rcases h2 with h|h<;>exact cY h);have d:=m1.inn hi;rw[e1]at a;have h2:=fun(μ9:Mem) (p:MLe μ μ9)=>hw.una _ μ9 d (by omega) (hm.mono p);have m2:=(hr.una _ d (by omega)).mv;generalize r.una s1=p9 at a h2 m2;obtain⟨x2,s2⟩:=p9;dsimp only at a h2 m2;have o:=m2.inn d;have l2:=m2.le;have t2:=m2.lt;have hU:=fun(μ9:Mem) (p:MLe μ μ9) (u9:Value) (k9:KR μ9 [x2] u9)=>HA (xb:=xb) (s:=s2) o.lt (hm.mono p) 43 (aJ E s).at' 1 0 ((aJ E s).s) x2 u9 k9;obtain⟨s3,e3,ad,l3,t3⟩:=WV hE o x2;rw[e3]at a hU;subst a;refine aC Tryz.func128 rfl Tryz.ntmps128 (by simp) hμ hO ?_;try repeat' (first|refine PBF ?_|((with_reducible show GC _ _ (Code.seq (Code.seq (Code.region 11 _ _) _) _) _ _ _ _);(apply dE))|refine KO ?_|(refine CF 22 ?_;refine GP1 rfl (bK (by assumption) (hm.mono ML)) ?_;dsimp only[ca,na])|(refine CF 23 ?_;refine GP2 rfl (dD (by assumption) (hm.mono ML) _) ?_;dsimp only[ca,na])|(refine CF 24 ?_;refine GP2 rfl (cS (by assumption) (hm.mono ML) _) ?_;dsimp only[ca,na])|refine KZ ?_|refine NB fun b=>?_)
   rename_i b2;refine fK (ι:=Bool) (fun c=>c=true) (fun _=>μ) (fun c=>[(32,.bool c),(0,.pointer (some ⟨xb,0,none⟩)),(2,.pointer (some ⟨b2,0,none⟩)),(3,.pointer (some ⟨b,0,none⟩))]) (fun _=>[.inl ⟨b,54,7,idx 0 (eB (aJ E s))⟩,.inl ⟨b2,25,6,[]⟩,RB E V xb s]) ?_ ?_
   ·try repeat' (first|refine KO ?_|(refine CF 23 ?_;refine GP2 rfl (dD (by assumption) (hm.mono ML) _) ?_;dsimp only[ca,na])|(refine KB ?_ ?_<;>intro hp))
    all_goals(refine J1 _ ?_;first|assumption|(simp_all;done))
   rintro _ rfl;try dsimp only
   try repeat' (first|refine KO ?_|(refine CF 42 ?_;refine GP1 rfl (bN (by assumption) (by assumption) (hm.mono ML)) ?_;dsimp only[ca,na]))
   refine aW 11 _ (by kernel_rfl) rfl (aK (aG (aG aU))) ?_;all_goals(refine DD 0 ?_;refine DD 1 ?_;refine DD 2 ?_;refine DD 3 ?_;refine DD 4 ?_;refine DD 5 ?_)
   all_goals(refine D3 6 ?_;refine D5 ?_;(refine CF 128 ?_;refine GR1 rfl (h2 _ ML) ?_;(rintro v2 μ2 y ⟨u2,rfl,j⟩;have o_u2:=j.one;have H2:MLe μ μ2:=MLe.trans ML y);dsimp only[ca,na]);refine D9 ?_)
   all_goals(refine D3 7 ?_;refine D5 ?_;refine NB fun b=>?_;refine D9 ?_;refine DD 8 ?_)
   all_goals(refine D3 9 ?_;refine D5 ?_;(refine CF 145 ?_;refine HX rfl ?_;rintro μ7 g u;have j:=j.mono g;have H7:MLe μ μ7:=MLe.trans ML g;have k7:=KR.eT (n:=1) [(x2,u2)] u rfl (by repeat first|exact bH|refine bA rfl ?_) (Kids.single j);refine GR2 rfl (hU _ ML _ k7) ?_;(rintro v8 μ8 x ⟨u8,rfl,aa⟩;have o_u8:=aa.one;have H8:MLe μ μ8:=MLe.trans ML x);dsimp only[ca,na]);refine D9 ?_)
   all_goals(refine D3 10 ?_;refine D5 ?_;refine Y0 ?_;refine D9 ?_;refine D8 ?_)
   all_goals try repeat' (refine KO ?_)
   all_goals(apply aX l rfl;exact(RG 1 rfl rfl rfl rfl rfl);exact rfl;exact .refl _;exact fun μ' hle ab=>aa.mono hle)
  ·rw[if_neg h2]at a;have ah:=eq_false_of_ne_true h2;simp only[aY,not_or,jR]at h2;obtain⟨n8,n9⟩:=h2;have h1:=fun(μ9:Mem) (p:MLe μ μ9)=>XZ hE hr hw h8 hi (hm.mono p) (by omega);have m1:=(TR hE hr hi (by omega)).mv;generalize wB E r s=p9 at a h1 m1;obtain⟨x1,s1⟩:=p9;dsimp only at a h1 m1;have d:=m1.inn hi;have l1:=m1.le;have t1:=m1.lt;by_cases h3:(isR E s1 ⟨#[43,43]⟩||isR E s1 ⟨#[45,45]⟩)=true∧(aJ E s1).line=false∧s1.e=0
   ·rw[if_pos h3]at a;obtain⟨ag,af,ae⟩:=id h3;obtain⟨s2,e2,m2,i2,t2,o2,-⟩:=aT hE (mv0 d) (by have p:=h3.1;simp only[aY]at p;rcases p with h|h<;>exact cY h);have o:=m2.inn d;rw[e2]at a;have hU:=fun(μ9:Mem) (p:MLe μ μ9) (u9:Value) (k9:KR μ9 [x1] u9)=>HA (xb:=xb) (s:=s2) o.lt (hm.mono p) 43 x1.at' 0 0 ((aJ E s1).s) x1 u9 k9;obtain⟨s3,e3,ad,l3,t3⟩:=WV hE o x1;rw[e3]at a hU;subst a;refine aC Tryz.func128 rfl Tryz.ntmps128 (by simp) hμ hO ?_;try repeat' (first|refine PBF ?_|refine KO ?_|(refine CF 22 ?_;refine GP1 rfl (bK (by assumption) (hm.mono ML)) ?_;dsimp only[ca,na])|(refine CF 23 ?_;refine GP2 rfl (dD (by assumption) (hm.mono ML) _) ?_;dsimp only[ca,na])|(refine CF 24 ?_;refine GP2 rfl (cS (by assumption) (hm.mono ML) _) ?_;dsimp only[ca,na])|(refine CF 42 ?_;refine GP1 rfl (bN (by assumption) (by assumption) (hm.mono ML)) ?_;dsimp only[ca,na])|(refine CF 146 ?_;refine GR1 rfl (h1 _ ML) ?_;(rintro v1 μ1 z ⟨u1,rfl,k⟩;have o_u1:=k.one;have H1:MLe μ μ1:=MLe.trans ML z);dsimp only[ca,na])|(refine CF 145 ?_;refine HX rfl ?_;rintro μ7 g u;have k:=k.mono g;have H7:MLe μ μ7:=MLe.trans ML g;have k7:=KR.eT (n:=1) [(x1,u1)] u rfl (by repeat first|exact bH|refine bA rfl ?_) (Kids.single k);refine GR2 rfl (hU _ ML _ k7) ?_;(rintro v8 μ8 x ⟨u8,rfl,aa⟩;have o_u8:=aa.one;have H8:MLe μ μ8:=MLe.trans ML x);dsimp only[ca,na])|refine KZ ?_|refine XS0 ?_|refine XS2 ?_|refine NB fun b=>?_|(refine KB ?_ ?_<;>intro hp))
    all_goals try(exfalso;(simp_all;done))
    all_goals(apply aX l rfl;exact(RG 2 rfl rfl rfl rfl rfl);exact rfl;exact .refl _;exact fun μ' hle ab=>aa.mono hle)
   ·rw[if_neg h3]at a;subst a;refine aC Tryz.func128 rfl Tryz.ntmps128 (by simp) hμ hO ?_;try repeat' (first|refine PBF ?_|refine KO ?_|(refine CF 22 ?_;refine GP1 rfl (bK (by assumption) (hm.mono ML)) ?_;dsimp only[ca,na])|(refine CF 23 ?_;refine GP2 rfl (dD (by assumption) (hm.mono ML) _) ?_;dsimp only[ca,na])|(refine CF 24 ?_;refine GP2 rfl (cS (by assumption) (hm.mono ML) _) ?_;dsimp only[ca,na])|(refine CF 146 ?_;refine GR1 rfl (h1 _ ML) ?_;(rintro v1 μ1 z ⟨u1,rfl,k⟩;have o_u1:=k.one;have H1:MLe μ μ1:=MLe.trans ML z);dsimp only[ca,na])|refine KZ ?_|refine XS0 ?_|refine XS2 ?_|refine NB fun b=>?_|(refine KB ?_ ?_<;>intro hp))
    all_goals try(exfalso;(simp_all;done))
    all_goals(apply aX l rfl;exact(RG 2 rfl rfl rfl rfl rfl);exact rfl;exact .refl _;exact fun μ' hle ab=>k.mono hle)
theorem US(bi:Bool)(hb:s.bg=s.i→s.as' =2→bi=false)(hn:8*(E.ts.length-s.i)+4≤n):zCR E V xb 89 [.pointer (some ⟨xb,0,none⟩),.bool bi] s (r.clb bi 1 false false s).2 μ (fun μ' v=>TV μ' (r.clb bi 1 false false s).1.1 v):=by
 have _:=hE;have _:=hr;have _:=h8
 intro w hμ g;have c:=bF g.diff;have hc:=fun nb lb=>hw.clb nb lb bi 1 false false s μ hi hb hn (by omega) hm;refine aC Tryz.func89 rfl Tryz.ntmps89 (by simp) hμ g ?_;try repeat' (first|refine KO ?_|(refine CF 115 ?_;rename_i b4 b5;refine nY (L' :=[.inl ⟨b4,25,6,[]⟩,BB b5 false,BB b false,RB E V xb s]) PS ?_;(with_reducible apply aFk);(iterate 3 exact rfl);exact EN;exact rfl;exact(hc _ _);(rintro v1 μ1 d ⟨u1,rfl,a⟩;have o_u1:=a.one);dsimp only[ca,na])|refine KZ ?_|refine NB fun b=>?_)
 all_goals(apply aX c rfl;exact(RG 0 rfl rfl rfl rfl rfl);exact rfl;exact .refl _;exact fun μ' hle h=>a.mono hle)
theorem aBo(bi:Bool)(hb:s.bg=s.i→s.as' =2→bi=false)(hn:8*(E.ts.length-s.i)+4≤n):zCR E V xb 58 [.pointer (some ⟨xb,0,none⟩),.bool bi] s (zH E r bi s).2 μ (fun μ' v=>TV μ' (zH E r bi s).1 v):=by
 intro w hμ hO;have j:=bF hO.diff;have hl:=hi.lt;generalize d:zH E r bi s=q;unfold zH bd at d;try dsimp only at d
 have h1:=fun(μ9:Mem) (h9:MLe μ μ9)=>US hE hr hw h8 hi (hm.mono h9) bi hb (by omega);have m1:=(hr.clb bi 1 false false _ hi hb (by omega)).mv;generalize r.clb bi 1 false false s=p9 at d h1 m1;obtain⟨x1,s1⟩:=p9;dsimp only at d h1 m1;have z:=m1.inn hi;have l1:=m1.le;have t1:=m1.lt;by_cases h2:s1.e=0∧isR E s1 ⟨#[63]⟩=true
 ·rw[if_pos h2]at d;obtain⟨ab,aa⟩:=id h2;obtain⟨s2,e2,m2,i2,t2,o2,-⟩:=aT hE (mv0 z) (cY h2.2);have u:=m2.inn z;rw[e2]at d;have ee1:cH E ⟨#[63]⟩ s1=s2:=by unfold cH;rw[if_pos h2.2,e2]
  have h3:=fun(μ9:Mem) (h9:MLe μ μ9)=>hw.asg true 0 _ μ9 u (fun h=>absurd h (by decide)) (by omega) (hm.mono h9);have m3:=(hr.asg true 0 _ u (fun h=>absurd h (by decide)) (by omega)).mv;generalize r.asg true 0 s2=p9 at d h3 m3;obtain⟨x3,s3⟩:=p9;dsimp only at d h3 m3;have y:=m3.inn u;have l3:=m3.le;have t3:=m3.lt;obtain⟨s4,e4,m4,l4,t4,o4⟩:=bW hE (mv0 y) ⟨#[58]⟩;have p:=m4.inn y;rw[e4]at d;have h5:=fun(μ9:Mem) (h9:MLe μ μ9)=>hw.asg bi 0 _ μ9 p (fun h=>absurd h (by decide)) (by omega) (hm.mono h9);have m5:=(hr.asg bi 0 _ p (fun h=>absurd h (by decide)) (by omega)).mv;generalize r.asg bi 0 s4=p9 at d h5 m5;obtain⟨x5,s5⟩:=p9;dsimp only at d h5 m5;have ad:=m5.inn p;have l5:=m5.le;have t5:=m5.lt;subst d;refine aC Tryz.func58 rfl Tryz.ntmps58 (by simp) hμ hO ?_;try repeat' (first|refine PBT ?_|refine KO ?_|(refine CF 65 ?_;refine GU2 rfl (dF (by assumption) (by assumption) (hm.mono ML)) ?_;intro v9;dsimp only[ca,na])|(refine CF 53 ?_;refine GP2 rfl (eU (by assumption) (by assumption) (hm.mono ML)) ?_;dsimp only[ca,na])|(refine CF 89 ?_;refine GR2 rfl (h1 _ ML) ?_;(rintro v1 μ1 c ⟨u1,rfl,a⟩;have o_u1:=a.one;have H1:MLe μ μ1:=MLe.trans ML c);dsimp only[ca,na])|(refine CF 35 ?_;refine GR3 rfl (h3 _ ML) ?_;(rintro v3 μ3 l ⟨u3,rfl,k⟩;have o_u3:=k.one;have H3:MLe μ μ3:=MLe.trans ML l;have a:=a.mono l);dsimp only[ca,na])|refine KZ ?_|refine XS0 ?_|refine NB fun b=>?_)
  refine aW 10 _ (by kernel_rfl) rfl (aK (aK (aG (aG aU)))) ?_;all_goals(refine DD 0 ?_;refine DD 1 ?_;refine DD 2 ?_;refine DD 3 ?_;refine DD 4 ?_;refine DD 5 ?_)
  all_goals(refine D3 6 ?_;refine D5 ?_;(refine CF 35 ?_;refine GR3 rfl (h5 _ ML) ?_;(rintro v5 μ5 g ⟨u5,rfl,x⟩;have o_u5:=x.one;have H5:MLe μ μ5:=MLe.trans ML g;have a:=a.mono g;have k:=k.mono g);dsimp only[ca,na]);refine D9 ?_)
  all_goals(refine D3 7 ?_;refine D5 ?_;refine NB fun b=>?_;refine D9 ?_;refine DD 8 ?_;refine D3 9 ?_;refine D5 ?_;refine Y0 ?_;refine D9 ?_;refine D8 ?_)
  all_goals try repeat' (refine KO ?_)
  all_goals(apply aX j rfl;exact(RG 3 rfl rfl rfl rfl rfl);exact rfl;exact .refl _;exact fun μ' hle o=>KR.eT [(x1.1,u1),(x3,u3),(x5,u5)] (o _ (by exact(aA))) rfl (by repeat first|exact bH|refine bA rfl ?_) (Kids.cons (a.mono hle) (Kids.cons (k.mono hle) (Kids.cons (x.mono hle) (Kids.nil _)))))
 ·rw[if_neg h2]at d;by_cases he:s1.e=0
  ·have hz:isR E s1 ⟨#[63]⟩=false:=by simpa[he]using h2
   have ee1:cH E ⟨#[63]⟩ s1=s1:=by unfold cH;rw[if_neg (by simp[hz])]
   subst d;refine aC Tryz.func58 rfl Tryz.ntmps58 (by simp) hμ hO ?_;try repeat' (first|refine PBF ?_|refine KO ?_|(refine CF 53 ?_;refine GP2 rfl (eU (by assumption) (by assumption) (hm.mono ML)) ?_;dsimp only[ca,na])|(refine CF 89 ?_;refine GR2 rfl (h1 _ ML) ?_;(rintro v1 μ1 c ⟨u1,rfl,a⟩;have o_u1:=a.one;have H1:MLe μ μ1:=MLe.trans ML c);dsimp only[ca,na])|refine KZ ?_|refine XS0 ?_|refine XS1 ?_|refine NB fun b=>?_)
   all_goals(apply aX j rfl;exact(RG 1 rfl rfl rfl rfl rfl);exact rfl;exact .refl _;exact fun μ' hle o=>a.mono hle)
  ·subst d;refine aC Tryz.func58 rfl Tryz.ntmps58 (by simp) hμ hO ?_;try repeat' (first|refine KO ?_|(refine CF 89 ?_;refine GR2 rfl (h1 _ ML) ?_;(rintro v1 μ1 c ⟨u1,rfl,a⟩;have o_u1:=a.one;have H1:MLe μ μ1:=MLe.trans ML c);dsimp only[ca,na])|refine KZ ?_|refine XS0 ?_|refine XS1 ?_|refine NB fun b=>?_)
   all_goals(apply aX j rfl;exact(RG 1 rfl rfl rfl rfl rfl);exact rfl;exact .refl _;exact fun μ' hle o=>a.mono hle)
theorem UT(bi:Bool)(a:Int)(ah:a=2→bi=false)(hn:8*(E.ts.length-s.i)+4≤n)(ao:E.ts.length≤30000):zCR E V xb 35 [.pointer (some ⟨xb,0,none⟩),.bool bi,.int .i64 a] s (uJ E r bi a s).2 μ (fun μ' v=>TV μ' (uJ E r bi a s).1 v):=by
 intro w hμ hO;have l:=bF hO.diff;have hl:=hi.lt;generalize d:uJ E r bi a s=q;unfold uJ at d;try dsimp only at d
 obtain⟨s1,e1,o,i1,ae⟩:∃z:RdS,({ s with bg:=s.i,as' :=a }:RdS)=z∧In E src z∧z.i=s.i∧(z.bg=z.i→z.as' =2→bi=false):=⟨_,rfl,⟨hi.lt,hi.la,aP _⟩,rfl,fun _ h=>ah h⟩;rw[e1]at d;unfold wZ bd at d;dsimp only at d;by_cases y1:(s1.gen&&mZ E s1 ⟨#[121,105,101,108,100]⟩)=true
 ·rw[if_pos y1]at d;have h2:=fun(μ9:Mem) (h9:MLe μ μ9)=>XR hE hr hw h8 o (hm.mono h9) bi (by simp only[aM]at y1;exact tU y1.2) (by omega);have m2:=(QZ hE hr bi o (by simp only[aM]at y1;exact tU y1.2) (by omega)).mv;generalize uS E r bi s1=p9 at d h2 m2;obtain⟨x2,s2⟩:=p9;dsimp only at d h2 m2;have y:=m2.inn o;have l2:=m2.le;have t2:=m2.lt;subst d e1;refine aC Tryz.func35 rfl Tryz.ntmps35 (by simp) hμ hO ?_;try repeat' (first|refine KO ?_|(refine CF 54 ?_;refine GP2 rfl (mU (by assumption) (hm.mono ML) _) ?_;dsimp only[ca,na])|(refine CF 55 ?_;refine GR2 rfl (h2 _ ML) ?_;(rintro v2 μ2 g ⟨u2,rfl,c⟩;have o_u2:=c.one;have H2:MLe μ μ2:=MLe.trans ML g);dsimp only[ca,na])|(refine CF 22 ?_;refine kM (s2:={ s with bg:=s.i,as' :=a }) rfl (.cells PU) ?_;dsimp only[ca,na];refine GP1 rfl (bK (by assumption) (hm.mono ML)) ?_;dsimp only[ca,na])|(refine CF 56 ?_;refine GP2 rfl (qX (In.lt (by assumption)) (hm.mono ML)) ?_;dsimp only[ca,na])|refine KZ ?_|refine XS1 ?_|refine NB fun b=>?_|(refine KB ?_ ?_<;>intro hp))
  all_goals try(exfalso;(simp_all;done))
  all_goals(apply aX l rfl;exact(RG 1 rfl rfl rfl rfl rfl);exact rfl;exact .refl _;exact fun μ' hle p=>c.mono hle)
 ·rw [if_neg y1]at d;have y1f:=eq_false_of_ne_true y1;by_cases y2:sJ E s1=true
  ·rw[if_pos y2]at d;have h2:=fun(μ9:Mem) (h9:MLe μ μ9)=>XT hE hr hw h8 o (hm.mono h9) bi y2 (by omega);have m2:=(RN hE hr bi o y2 (by omega)).mv;generalize uX E r bi s1=p9 at d h2 m2;obtain⟨x2,s2⟩:=p9;dsimp only at d h2 m2;have y:=m2.inn o;have l2:=m2.le;have t2:=m2.lt;subst d e1;refine aC Tryz.func35 rfl Tryz.ntmps35 (by simp) hμ hO ?_;try repeat' (first|refine PBT ?_|refine KO ?_|(refine CF 54 ?_;refine GP2 rfl (mU (by assumption) (hm.mono ML) _) ?_;dsimp only[ca,na])|(refine CF 57 ?_;refine GR2 rfl (h2 _ ML) ?_;(rintro v2 μ2 g ⟨u2,rfl,c⟩;have o_u2:=c.one;have H2:MLe μ μ2:=MLe.trans ML g);dsimp only[ca,na])|(refine CF 22 ?_;refine kM (s2:={ s with bg:=s.i,as' :=a }) rfl (.cells PU) ?_;dsimp only[ca,na];refine GP1 rfl (bK (by assumption) (hm.mono ML)) ?_;dsimp only[ca,na])|(refine CF 56 ?_;refine GP2 rfl (qX (In.lt (by assumption)) (hm.mono ML)) ?_;dsimp only[ca,na])|refine KZ ?_|refine XS1 ?_|refine NB fun b=>?_|(refine KB ?_ ?_<;>intro hp))
   all_goals try(exfalso;(simp_all;done))
   all_goals(apply aX l rfl;exact(RG 1 rfl rfl rfl rfl rfl);exact rfl;exact .refl _;exact fun μ' hle p=>c.mono hle)
  ·rw [if_neg y2]at d;have y2f:=eq_false_of_ne_true y2;have p8:=fun e=>(QG hE hr bi o ae (by omega)).ok e;have h2:=fun(μ9:Mem) (h9:MLe μ μ9)=>aBo hE hr hw h8 o (hm.mono h9) bi ae (by omega);have m2:=(QG hE hr bi o ae (by omega)).mv;generalize zH E r bi s1=p9 at d h2 m2 p8;obtain⟨x2,s2⟩:=p9;dsimp only at d h2 m2 p8;have y:=m2.inn o;have l2:=m2.le;have t2:=m2.lt;by_cases h3:s2.e=0∧pL (aJ E s2)=true
   ·rw [if_pos h3]at d;obtain⟨ak,aj⟩:=id h3;have w8:=(p8 h3.1).1;have z8:=yM x2;have q8:=tF x2;by_cases h4:(aJ E s2).s=⟨#[61]⟩
    ·rw [if_pos h4]at d;have h3:=fun(μ9:Mem) (h9:MLe μ μ9)=>fun(u9:Value) (k9:KR μ9 (T.kids x2) u9)=>xT (xb:=xb) y.lt (hm.mono h9) x2 u9 k9 (fun _=>by omega) (wE E s1.i s2);have m3:=xX hE y x2 (wE E s1.i s2);generalize iY E x2 (wE E s1.i s2) s2=p9 at d h3 m3;obtain⟨x3,s3⟩:=p9;dsimp only at d h3 m3;have u:=m3.1;have l3:=m3.2;have t3:=u.lt;by_cases h6:s3.e=0
     ·rw[if_pos h6]at d;obtain⟨s4,e4,m4,l4,t4,o4⟩:=DZ (mv0 u);have aa:=m4.inn u;rw[e4]at d;have h5:=fun(μ9:Mem) (h9:MLe μ μ9)=>hw.asg bi 0 _ μ9 aa (fun h=>absurd h (by decide)) (by omega) (hm.mono h9);have m5:=(hr.asg bi 0 _ aa (fun h=>absurd h (by decide)) (by omega)).mv;generalize r.asg bi 0 s4=p9 at d h5 m5;obtain⟨x9,s5⟩:=p9;dsimp only at d h5 m5;have al:=m5.inn aa;have l5:=m5.le;have t5:=m5.lt;subst d e1;refine aC Tryz.func35 rfl Tryz.ntmps35 (by simp) hμ hO ?_;try repeat' (first|((with_reducible show GC _ _ (Code.seq (Code.seq (Code.region 3 _ _) _) _) _ _ _ _);(apply dE))|refine KO ?_|(refine CF 22 ?_;refine kM (s2:={ s with bg:=s.i,as' :=a }) rfl (.cells PU) ?_;dsimp only[ca,na];refine GP1 rfl (bK (by assumption) (hm.mono ML)) ?_;dsimp only[ca,na])|refine KZ ?_|refine NB fun b=>?_)
      rename_i b2;refine fK (ι:=Unit) (fun _=>True) (fun _=>μ) (fun _=>[(0,.pointer (some ⟨xb,0,none⟩)),(1,.bool bi),(2,.int .i64 a),(6,.pointer (some ⟨b2,0,none⟩)),(7,.pointer (some ⟨b,0,none⟩))]) (fun _=>[.inl ⟨b,54,7,idx 0 (eB (aJ E { s with bg:=s.i,as' :=a }))⟩,.inl ⟨b2,25,6,[]⟩,RB E V xb { s with bg:=s.i,as' :=a }]) ?_ ?_
      ·try repeat' (first|refine KO ?_|(refine CF 54 ?_;refine GP2 rfl (mU (by assumption) (hm.mono ML) _) ?_;dsimp only[ca,na])|refine KZ ?_|(refine KB ?_ ?_<;>intro hp))
       all_goals try(exfalso;(simp_all;done))
       all_goals refine J1 () trivial
      rintro⟨⟩-;try dsimp only
      try repeat' (first|refine PBT ?_|refine PBF ?_|((with_reducible show GC _ _ (Code.seq (Code.seq (Code.region 12 _ _) _) _) _ _ _ _);(apply dE))|refine KO ?_|(refine CF 22 ?_;refine GP1 rfl (bK (by assumption) (hm.mono ML)) ?_;dsimp only[ca,na])|refine K2 59 (fun w μc hw x=>tC _ w μc hw) ?_|(refine CF 58 ?_;refine GR2 rfl (h2 _ ML) ?_;(rintro v2 μ2 g ⟨u2,rfl,c⟩;have o_u2:=c.one;have H2:MLe μ μ2:=MLe.trans ML g);dsimp only[ca,na])|(refine CF 56 ?_;refine GP2 rfl (qX (In.lt (by assumption)) (hm.mono ML)) ?_;dsimp only[ca,na])|refine KZ ?_|refine XS0 ?_|refine NB fun b=>?_)
      rename_i b7 b9;refine fK (ι:=Mem×Value) (fun q=>MLe μ q.1∧KR q.1 x3.kids q.2) (fun q=>q.1) (fun _=>[(0,.pointer (some ⟨xb,0,none⟩)),(1,.bool bi),(6,.pointer (some ⟨b2,0,none⟩)),(9,.pointer (some ⟨b9,0,none⟩)),(10,.pointer (some ⟨b,0,none⟩))]) (fun q=>[.inl ⟨b,54,7,idx 0 (eB (aJ E s2))⟩,.inl ⟨b9,25,6,idx 0 (dG x3 q.2)⟩,.inl ⟨b2,25,6,[]⟩,RB E V xb s3]) ?_ ?_
      ·try repeat' (refine KZ ?_)
       refine aW 7 _ (by kernel_rfl) rfl (aK (aG (aK (aK (aG aU))))) ?_;all_goals(refine DD 0 ?_;refine DD 2 ?_;refine DD 3 ?_)
       refine dS 1 4 (by kernel_rfl) ?dr1_1 ?dr1_4
       case' dr1_1=>
        (((with_reducible apply bS);(iterate 4 exact rfl);(((with_reducible apply gT);exact rfl;(repeat first|with_reducible exact bT|with_reducible apply cG);exact rfl))))
        all_goals(refine D3 4 ?_;refine D5 ?_;(refine CF 61 ?_;(with_reducible apply HY);(iterate 3 exact rfl);exact EN;exact rfl;exact ID (by assumption) (hm.mono ML) (by omega);dsimp only[ca,na]);refine D9 ?_)
        all_goals(refine D3 5 ?_;refine D5 ?_;(refine CF 60 ?_;refine GR3 rfl (h3 _ ML _ c) ?_;(rintro v3 μ3 j ⟨u3,rfl,k⟩;have o_u3:=k.one;have H3:MLe μ μ3:=MLe.trans ML j;have c:=c.mono j);dsimp only[ca,na]);refine D9 ?_)
        all_goals(refine D3 6 ?_;refine D5 ?_;refine Y0 ?_;refine D9 ?_;refine D8 ?_)
       case' dr1_4=>
        (refine D5 ?_;(refine CF 61 ?_;(with_reducible apply HY);(iterate 3 exact rfl);exact EN;exact rfl;exact ID (by assumption) (hm.mono ML) (by omega);dsimp only[ca,na]);refine D9 ?_)
        all_goals(refine D3 1 ?_;(with_reducible apply bS);(iterate 4 exact rfl);(((with_reducible apply gT);exact rfl;(repeat first|with_reducible exact bT|with_reducible apply cG);exact rfl)))
        all_goals(refine D3 5 ?_;refine D5 ?_;(refine CF 60 ?_;refine GR3 rfl (h3 _ ML _ c) ?_;(rintro v3 μ3 j ⟨u3,rfl,k⟩;have o_u3:=k.one;have H3:MLe μ μ3:=MLe.trans ML j;have c:=c.mono j);dsimp only[ca,na]);refine D9 ?_)
        all_goals(refine D3 6 ?_;refine D5 ?_;refine Y0 ?_;refine D9 ?_;refine D8 ?_)
       all_goals refine J1 (μ3,u3) ⟨by assumption,by assumption⟩
      rintro⟨μ3,u3⟩ ⟨H3,k⟩;dsimp only at H3 k⊢;have o_u3:=k.one;try repeat' (first|refine KO ?_|(refine CF 42 ?_;refine GP1 rfl (bN (by assumption) (by assumption) (hm.mono ML)) ?_;dsimp only[ca,na])|refine KZ ?_)
      refine aW 11 _ (by kernel_rfl) rfl (aK (aK (aG (aG aU)))) ?_;all_goals(refine DD 0 ?_;refine DD 1 ?_;refine DD 2 ?_;refine DD 3 ?_;refine DD 4 ?_;refine DD 5 ?_;refine DD 6 ?_)
      all_goals(refine D3 7 ?_;refine D5 ?_;(refine CF 35 ?_;refine GR3 rfl (h5 _ ML) ?_;(rintro v5 μ5 ab ⟨u5,rfl,af⟩;have o_u5:=af.one;have H5:MLe μ μ5:=MLe.trans ML ab;have k:=k.mono ab);dsimp only[ca,na]);refine D9 ?_)
      all_goals(refine D3 8 ?_;refine D5 ?_;refine NB fun b=>?_;refine D9 ?_;refine DD 9 ?_;refine D3 10 ?_;refine D5 ?_;refine Y0 ?_;refine D9 ?_;refine D8 ?_)
      all_goals try repeat' (refine KO ?_)
      all_goals(apply aX l rfl;exact(RG 3 rfl rfl rfl rfl rfl);exact rfl;exact .refl _;exact fun μ' hle p=>KR.eT [(x3,u3),(x9,u5)] (p _ (by exact(aA))) rfl (by repeat first|exact bH|refine bA rfl ?_) (Kids.cons (k.mono hle) (Kids.cons (af.mono hle) (Kids.nil _))))
     ·rw[if_neg h6]at d;subst d e1;refine aC Tryz.func35 rfl Tryz.ntmps35 (by simp) hμ hO ?_;try repeat' (first|((with_reducible show GC _ _ (Code.seq (Code.seq (Code.region 3 _ _) _) _) _ _ _ _);(apply dE))|refine KO ?_|(refine CF 22 ?_;refine kM (s2:={ s with bg:=s.i,as' :=a }) rfl (.cells PU) ?_;dsimp only[ca,na];refine GP1 rfl (bK (by assumption) (hm.mono ML)) ?_;dsimp only[ca,na])|refine KZ ?_|refine NB fun b=>?_)
      rename_i b2;refine fK (ι:=Unit) (fun _=>True) (fun _=>μ) (fun _=>[(0,.pointer (some ⟨xb,0,none⟩)),(1,.bool bi),(2,.int .i64 a),(6,.pointer (some ⟨b2,0,none⟩)),(7,.pointer (some ⟨b,0,none⟩))]) (fun _=>[.inl ⟨b,54,7,idx 0 (eB (aJ E { s with bg:=s.i,as' :=a }))⟩,.inl ⟨b2,25,6,[]⟩,RB E V xb { s with bg:=s.i,as' :=a }]) ?_ ?_
      ·try repeat' (first|refine KO ?_|(refine CF 54 ?_;refine GP2 rfl (mU (by assumption) (hm.mono ML) _) ?_;dsimp only[ca,na])|refine KZ ?_|(refine KB ?_ ?_<;>intro hp))
       all_goals try(exfalso;(simp_all;done))
       all_goals refine J1 () trivial
      rintro⟨⟩-;try dsimp only
      try repeat' (first|refine PBT ?_|refine PBF ?_|((with_reducible show GC _ _ (Code.seq (Code.seq (Code.region 12 _ _) _) _) _ _ _ _);(apply dE))|refine KO ?_|(refine CF 22 ?_;refine GP1 rfl (bK (by assumption) (hm.mono ML)) ?_;dsimp only[ca,na])|refine K2 59 (fun w μc hw x=>tC _ w μc hw) ?_|(refine CF 58 ?_;refine GR2 rfl (h2 _ ML) ?_;(rintro v2 μ2 g ⟨u2,rfl,c⟩;have o_u2:=c.one;have H2:MLe μ μ2:=MLe.trans ML g);dsimp only[ca,na])|(refine CF 56 ?_;refine GP2 rfl (qX (In.lt (by assumption)) (hm.mono ML)) ?_;dsimp only[ca,na])|refine KZ ?_|refine XS0 ?_|refine NB fun b=>?_)
      rename_i b7 b9;refine fK (ι:=Mem×Value) (fun q=>MLe μ q.1∧KR q.1 x3.kids q.2) (fun q=>q.1) (fun _=>[(0,.pointer (some ⟨xb,0,none⟩)),(1,.bool bi),(6,.pointer (some ⟨b2,0,none⟩)),(9,.pointer (some ⟨b9,0,none⟩)),(10,.pointer (some ⟨b,0,none⟩))]) (fun q=>[.inl ⟨b,54,7,idx 0 (eB (aJ E s2))⟩,.inl ⟨b9,25,6,idx 0 (dG x3 q.2)⟩,.inl ⟨b2,25,6,[]⟩,RB E V xb s3]) ?_ ?_
      ·try repeat' (refine KZ ?_)
       refine aW 7 _ (by kernel_rfl) rfl (aK (aG (aK (aK (aG aU))))) ?_;all_goals(refine DD 0 ?_;refine DD 2 ?_;refine DD 3 ?_)
       refine dS 1 4 (by kernel_rfl) ?dr2_1 ?dr2_4
       case' dr2_1=>
        (((with_reducible apply bS);(iterate 4 exact rfl);(((with_reducible apply gT);exact rfl;(repeat first|with_reducible exact bT|with_reducible apply cG);exact rfl))))
        all_goals(refine D3 4 ?_;refine D5 ?_;(refine CF 61 ?_;(with_reducible apply HY);(iterate 3 exact rfl);exact EN;exact rfl;exact ID (by assumption) (hm.mono ML) (by omega);dsimp only[ca,na]);refine D9 ?_)
        all_goals(refine D3 5 ?_;refine D5 ?_;(refine CF 60 ?_;refine GR3 rfl (h3 _ ML _ c) ?_;(rintro v3 μ3 j ⟨u3,rfl,k⟩;have o_u3:=k.one;have H3:MLe μ μ3:=MLe.trans ML j;have c:=c.mono j);dsimp only[ca,na]);refine D9 ?_)
        all_goals(refine D3 6 ?_;refine D5 ?_;refine Y0 ?_;refine D9 ?_;refine D8 ?_)
       case' dr2_4=>
        (refine D5 ?_;(refine CF 61 ?_;(with_reducible apply HY);(iterate 3 exact rfl);exact EN;exact rfl;exact ID (by assumption) (hm.mono ML) (by omega);dsimp only[ca,na]);refine D9 ?_)
        all_goals(refine D3 1 ?_;(with_reducible apply bS);(iterate 4 exact rfl);(((with_reducible apply gT);exact rfl;(repeat first|with_reducible exact bT|with_reducible apply cG);exact rfl)))
        all_goals(refine D3 5 ?_;refine D5 ?_;(refine CF 60 ?_;refine GR3 rfl (h3 _ ML _ c) ?_;(rintro v3 μ3 j ⟨u3,rfl,k⟩;have o_u3:=k.one;have H3:MLe μ μ3:=MLe.trans ML j;have c:=c.mono j);dsimp only[ca,na]);refine D9 ?_)
        all_goals(refine D3 6 ?_;refine D5 ?_;refine Y0 ?_;refine D9 ?_;refine D8 ?_)
       all_goals refine J1 (μ3,u3) ⟨by assumption,by assumption⟩
      rintro⟨μ3,u3⟩ ⟨H3,k⟩;dsimp only at H3 k⊢;have o_u3:=k.one;try repeat' (first|refine KZ ?_|refine XS2 ?_)
      all_goals(apply aX l rfl;exact(RG 2 rfl rfl rfl rfl rfl);exact rfl;exact .refl _;exact fun μ' hle p=>k.mono hle)
    ·rw[if_neg h4]at d;by_cases h5:eW x2=true
     ·rw[if_pos h5]at d;rw[if_pos h3.1]at d;obtain⟨s3,e3,m3,l3,t3,o3⟩:=DZ (mv0 y);have u:=m3.inn y;rw[e3]at d;have h4:=fun(μ9:Mem) (h9:MLe μ μ9)=>hw.asg bi 0 _ μ9 u (fun h=>absurd h (by decide)) (by omega) (hm.mono h9);have m4:=(hr.asg bi 0 _ u (fun h=>absurd h (by decide)) (by omega)).mv;generalize r.asg bi 0 s3=p9 at d h4 m4;obtain⟨x9,s4⟩:=p9;dsimp only at d h4 m4;have aa:=m4.inn u;have l4:=m4.le;have t4:=m4.lt;subst d e1;refine aC Tryz.func35 rfl Tryz.ntmps35 (by simp) hμ hO ?_;try repeat' (first|((with_reducible show GC _ _ (Code.seq (Code.seq (Code.region 3 _ _) _) _) _ _ _ _);(apply dE))|refine KO ?_|(refine CF 22 ?_;refine kM (s2:={ s with bg:=s.i,as' :=a }) rfl (.cells PU) ?_;dsimp only[ca,na];refine GP1 rfl (bK (by assumption) (hm.mono ML)) ?_;dsimp only[ca,na])|refine KZ ?_|refine NB fun b=>?_)
      rename_i b2;refine fK (ι:=Unit) (fun _=>True) (fun _=>μ) (fun _=>[(0,.pointer (some ⟨xb,0,none⟩)),(1,.bool bi),(2,.int .i64 a),(6,.pointer (some ⟨b2,0,none⟩)),(7,.pointer (some ⟨b,0,none⟩))]) (fun _=>[.inl ⟨b,54,7,idx 0 (eB (aJ E { s with bg:=s.i,as' :=a }))⟩,.inl ⟨b2,25,6,[]⟩,RB E V xb { s with bg:=s.i,as' :=a }]) ?_ ?_
      ·try repeat' (first|refine KO ?_|(refine CF 54 ?_;refine GP2 rfl (mU (by assumption) (hm.mono ML) _) ?_;dsimp only[ca,na])|refine KZ ?_|(refine KB ?_ ?_<;>intro hp))
       all_goals try(exfalso;(simp_all;done))
       all_goals refine J1 () trivial
      rintro⟨⟩-;try dsimp only
      try repeat' (first|refine PBT ?_|refine PBF ?_|refine KO ?_|(refine CF 22 ?_;refine GP1 rfl (bK (by assumption) (hm.mono ML)) ?_;dsimp only[ca,na])|(refine CF 42 ?_;refine GP1 rfl (bN (by assumption) (by assumption) (hm.mono ML)) ?_;dsimp only[ca,na])|refine K2 59 (fun w μc hw x=>tC _ w μc hw) ?_|(refine CF 58 ?_;refine GR2 rfl (h2 _ ML) ?_;(rintro v2 μ2 g ⟨u2,rfl,c⟩;have o_u2:=c.one;have H2:MLe μ μ2:=MLe.trans ML g);dsimp only[ca,na])|(refine CF 56 ?_;refine GP2 rfl (qX (In.lt (by assumption)) (hm.mono ML)) ?_;dsimp only[ca,na])|refine K2 62 (fun w μc hw x=>jM w μc hw _ _) ?_|refine KZ ?_|refine XS0 ?_|refine NB fun b=>?_)
      refine aW 11 _ (by kernel_rfl) rfl (aK (aK (aK (aG (aG aU))))) ?_;all_goals(refine DD 0 ?_;refine DD 1 ?_;refine DD 2 ?_;refine DD 3 ?_;refine DD 4 ?_;refine DD 5 ?_;refine DD 6 ?_)
      all_goals(refine D3 7 ?_;refine D5 ?_;(refine CF 35 ?_;refine GR3 rfl (h4 _ ML) ?_;(rintro v4 μ4 ad ⟨u4,rfl,ag⟩;have o_u4:=ag.one;have H4:MLe μ μ4:=MLe.trans ML ad;have c:=c.mono ad);dsimp only[ca,na]);refine D9 ?_)
      all_goals(refine D3 8 ?_;refine D5 ?_;refine NB fun b=>?_;refine D9 ?_;refine DD 9 ?_;refine D3 10 ?_;refine D5 ?_;refine Y0 ?_;refine D9 ?_;refine D8 ?_)
      all_goals try repeat' (refine KO ?_)
      all_goals(apply aX l rfl;exact(RG 4 rfl rfl rfl rfl rfl);exact rfl;exact .refl _;exact fun μ' hle p=>KR.eT [(x2,u2),(x9,u4)] (p _ (by exact(aA))) rfl (by repeat first|exact bH|refine bA rfl ?_) (Kids.cons (c.mono hle) (Kids.cons (ag.mono hle) (Kids.nil _))))
     ·rw[if_neg h5]at d;have an:=eq_false_of_ne_true h5;obtain⟨s3,e3,u,l3,t3⟩:=lN hE y (x2.at') (24);rw[e3]at d;have ai:s3.e≠0:=by rw[←e3];exact nD (by decide)
      rw[if_neg ai]at d;subst d e1;refine aC Tryz.func35 rfl Tryz.ntmps35 (by simp) hμ hO ?_;try repeat' (first|((with_reducible show GC _ _ (Code.seq (Code.seq (Code.region 3 _ _) _) _) _ _ _ _);(apply dE))|refine KO ?_|(refine CF 22 ?_;refine kM (s2:={ s with bg:=s.i,as' :=a }) rfl (.cells PU) ?_;dsimp only[ca,na];refine GP1 rfl (bK (by assumption) (hm.mono ML)) ?_;dsimp only[ca,na])|refine KZ ?_|refine NB fun b=>?_)
      rename_i b2;refine fK (ι:=Unit) (fun _=>True) (fun _=>μ) (fun _=>[(0,.pointer (some ⟨xb,0,none⟩)),(1,.bool bi),(2,.int .i64 a),(6,.pointer (some ⟨b2,0,none⟩)),(7,.pointer (some ⟨b,0,none⟩))]) (fun _=>[.inl ⟨b,54,7,idx 0 (eB (aJ E { s with bg:=s.i,as' :=a }))⟩,.inl ⟨b2,25,6,[]⟩,RB E V xb { s with bg:=s.i,as' :=a }]) ?_ ?_
      ·try repeat' (first|refine KO ?_|(refine CF 54 ?_;refine GP2 rfl (mU (by assumption) (hm.mono ML) _) ?_;dsimp only[ca,na])|refine KZ ?_|(refine KB ?_ ?_<;>intro hp))
       all_goals try(exfalso;(simp_all;done))
       all_goals refine J1 () trivial
      rintro⟨⟩-;try dsimp only
      try repeat' (first|refine PBT ?_|refine PBF ?_|refine KO ?_|(refine CF 22 ?_;refine GP1 rfl (bK (by assumption) (hm.mono ML)) ?_;dsimp only[ca,na])|(refine CF 46 ?_;refine GU3 rfl (mC (by assumption) (by assumption) (hm.mono ML)) ?_;intro v9;dsimp only[ca,na])|refine K2 59 (fun w μc hw x=>tC _ w μc hw) ?_|(refine CF 58 ?_;refine GR2 rfl (h2 _ ML) ?_;(rintro v2 μ2 g ⟨u2,rfl,c⟩;have o_u2:=c.one;have H2:MLe μ μ2:=MLe.trans ML g);dsimp only[ca,na])|(refine CF 56 ?_;refine GP2 rfl (qX (In.lt (by assumption)) (hm.mono ML)) ?_;dsimp only[ca,na])|refine K2 62 (fun w μc hw x=>jM w μc hw _ _) ?_|refine KZ ?_|refine XS0 ?_|refine NB fun b=>?_)
      all_goals(apply aX l rfl;exact(RG 3 rfl rfl rfl rfl rfl);exact rfl;exact .refl _;exact fun μ' hle p=>c.mono hle)
   ·rw[if_neg h3]at d;subst d e1;refine aC Tryz.func35 rfl Tryz.ntmps35 (by simp) hμ hO ?_;try repeat' (first|refine PBF ?_|refine KO ?_|(refine CF 22 ?_;refine GP1 rfl (bK (by assumption) (hm.mono ML)) ?_;dsimp only[ca,na])|(refine CF 54 ?_;refine GP2 rfl (mU (by assumption) (hm.mono ML) _) ?_;dsimp only[ca,na])|refine K2 59 (fun w μc hw x=>tC _ w μc hw) ?_|(refine CF 58 ?_;refine GR2 rfl (h2 _ ML) ?_;(rintro v2 μ2 g ⟨u2,rfl,c⟩;have o_u2:=c.one;have H2:MLe μ μ2:=MLe.trans ML g);dsimp only[ca,na])|(refine CF 22 ?_;refine kM (s2:={ s with bg:=s.i,as' :=a }) rfl (.cells PU) ?_;dsimp only[ca,na];refine GP1 rfl (bK (by assumption) (hm.mono ML)) ?_;dsimp only[ca,na])|(refine CF 56 ?_;refine GP2 rfl (qX (In.lt (by assumption)) (hm.mono ML)) ?_;dsimp only[ca,na])|refine K2 62 (fun w μc hw x=>jM w μc hw _ _) ?_|refine KZ ?_|refine XS0 ?_|refine NB fun b=>?_|(refine KB ?_ ?_<;>intro hp))
    all_goals try(exfalso;(simp_all;done))
    all_goals(apply aX l rfl;exact(RG 3 rfl rfl rfl rfl rfl);exact rfl;exact .refl _;exact fun μ' hle p=>c.mono hle)
theorem XY(nb lb:Nat)(bi:Bool)(least:Int)(no lg:Bool)(hn:8*(E.ts.length-s.i)+3≤n)(hk:0≤least∧least≤12):CL E V xb nb lb bi least no lg s (AJ E r bi least no lg s) μ:=by
 have _:=h8
 intro w hμ hO;have u:=bF hO.diff;have hl:=hi.lt;generalize x:AJ E r bi least no lg s=q;unfold AJ bd at x;dsimp only at x;have h1:=fun(μ9:Mem) (h9:MLe μ μ9)=>hw.una _ μ9 hi (by omega) (hm.mono h9);have m1:=(hr.una _ hi (by omega)).mv;generalize r.una s=p9 at x h1 m1;obtain⟨x1,s1⟩:=p9;dsimp only at x h1 m1;have af:=m1.inn hi;have l1:=m1.le;have t1:=m1.lt;generalize hQ:uI E r bi least (E.ts.length+1) x1 no lg s1=Q at x;refine aC Tryz.func115 rfl Tryz.ntmps115 (by simp) hμ hO ?_;try repeat' (first|refine KO ?_|(refine CF 128 ?_;refine GR1 rfl (h1 _ ML) ?_;(rintro v1 μ1 z ⟨u1,rfl,aa⟩;have o_u1:=aa.one;have H1:MLe μ μ1:=MLe.trans ML z);dsimp only[ca,na])|refine KZ ?_|refine XS0 ?_|refine NB fun b=>?_)
 rename_i b2;refine dH (ι:=Nat×T×Value×Bool×Bool×RdS×Mem) (fun i=>MLe μ i.2.2.2.2.2.2∧KR i.2.2.2.2.2.2 i.2.1.kids i.2.2.1∧In E src i.2.2.2.2.2.1∧(i.2.2.2.2.2.1.e=0→E.ts.length-i.2.2.2.2.2.1.i<i.1)∧s.i≤i.2.2.2.2.2.1.i∧Q=uI E r bi least i.1 i.2.1 i.2.2.2.1 i.2.2.2.2.1 i.2.2.2.2.2.1)
  (fun i=>i.1) (fun i=>i.2.2.2.2.2.2) (fun _=>[(0,.pointer (some ⟨xb,0,none⟩)),(1,.bool bi),(2,.int .i64 least),(3,.pointer (some ⟨nb,0,none⟩)),(4,.pointer (some ⟨lb,0,none⟩)),(10,.pointer (some ⟨b2,0,none⟩)),(11,.pointer (some ⟨b,0,none⟩))]) (fun i=>[.inl ⟨b,25,6,idx 0 (dG i.2.1 i.2.2.1)⟩,.inl ⟨b2,25,6,[]⟩,BB nb i.2.2.2.1,BB lb i.2.2.2.2.1,RB E V xb i.2.2.2.2.2.1])
  (E.ts.length+1,x1,u1,no,lg,s1,μ1) ⟨H1,aa,af,fun e=>by dsimp only;omega,l1,hQ.symm⟩ (fun a w hs=>J5 hs) ?_
 rintro⟨f,x2,u2,no2,lg2,s2,μ2⟩ ⟨H2,d,o,hf,ae,hJ⟩;dsimp only at H2 d o hf ae hJ⊢;have t2:=o.lt;have o_u2:=d.one;have ag:=aBh bi s2 (E:=E);by_cases he:s2.e=0
 ·obtain⟨f,rfl⟩:∃g,f=g+1:=⟨f-1,by have:=hf he;omega⟩;have hf:=hf he;rw[uI,if_neg (fun h=>h he)]at hJ;unfold bd at hJ;dsimp only at hJ;by_cases c1:eI E bi s2<least∨eI E bi s2=0
  ·rw[if_pos c1]at hJ;subst hJ x;try repeat' (first|refine KO ?_|(refine CF 129 ?_;refine GP2 rfl (OR (by assumption) (hm.mono ML) _) ?_;dsimp only[ca,na])|refine KZ ?_|refine XS1 ?_|(refine KB ?_ ?_<;>intro hp))
   all_goals(apply IV u rfl;exact(RG 1 rfl rfl rfl rfl rfl);exact rfl;exact .refl _;exact .refl _;exact .refl _;exact fun μ' hle y=>d.mono hle)
  ·rw[if_neg c1]at hJ;obtain⟨c1a,c1b⟩:=not_or.1 c1;by_cases c2:(eI E bi s2=1∧lg2=true)∨((eI E bi s2=2∨eI E bi s2=3)∧no2=true)
   ·rw[if_pos c2]at hJ;obtain⟨s3,e3,m3,l3,t3,o3⟩:=kV hE (mv0 o);have v:=m3.inn o;rw[e3]at hJ;subst hJ x;try repeat' (first|refine PBF ?_|refine KO ?_|(refine CF 22 ?_;refine GP1 rfl (bK (by assumption) (hm.mono ML)) ?_;dsimp only[ca,na])|(refine CF 26 ?_;refine GU1 rfl (lY (by assumption) (by assumption) (hm.mono ML)) ?_;intro v9;dsimp only[ca,na])|(refine CF 129 ?_;refine GP2 rfl (OR (by assumption) (hm.mono ML) _) ?_;dsimp only[ca,na])|refine KZ ?_|refine XS1 ?_|(refine KB ?_ ?_<;>intro hp))
    all_goals try(exfalso;(simp_all;done))
    all_goals(apply IV u rfl;exact(RG 1 rfl rfl rfl rfl rfl);exact rfl;exact .refl _;exact .refl _;exact .refl _;exact fun μ' hle y=>d.mono hle)
   rw[if_neg c2]at hJ;obtain⟨s3,e3,m3,i3,t3,o3,g3⟩:=aT hE (mv0 o) (XQ c1b);have v:=m3.inn o;rw[e3]at hJ;have h4:=fun(μ9:Mem) (h9:MLe μ μ9)=>hw.clb nb lb bi (eI E bi s2+1) (no2||decide (eI E bi s2=1)) (lg2||decide (eI E bi s2=2)||decide (eI E bi s2=3)) s3 μ9 v (fun h=>by have:=o.bg;omega) (by omega) (by omega) (hm.mono h9);have m4:=(hr.clb bi (eI E bi s2+1) (no2||decide (eI E bi s2=1)) (lg2||decide (eI E bi s2=2)||decide (eI E bi s2=3)) s3 v (fun h=>by have:=o.bg;omega) (by omega)).mv;generalize r.clb bi (eI E bi s2+1) (no2||decide (eI E bi s2=1)) (lg2||decide (eI E bi s2=2)||decide (eI E bi s2=3)) s3=p9 at hJ h4 m4;obtain⟨x4,s4⟩:=p9;dsimp only at hJ h4 m4;have ab:=m4.inn v;have l4:=m4.le;have t4:=m4.lt;try repeat' (first|((with_reducible show GC _ _ (Code.seq (Code.seq (Code.region 7 _ _) _) _) _ _ _ _);(apply dE))|refine KO ?_|(refine CF 22 ?_;refine GP1 rfl (bK (by assumption) (hm.mono ML)) ?_;dsimp only[ca,na])|(refine CF 129 ?_;refine GP2 rfl (OR (by assumption) (hm.mono ML) _) ?_;dsimp only[ca,na])|refine KZ ?_)
   refine fK (ι:=Unit) (fun _=>True) (fun _=>μ2) (fun _=>[(0,.pointer (some ⟨xb,0,none⟩)),(1,.bool bi),(2,.int .i64 least),(3,.pointer (some ⟨nb,0,none⟩)),(4,.pointer (some ⟨lb,0,none⟩)),(10,.pointer (some ⟨b2,0,none⟩)),(11,.pointer (some ⟨b,0,none⟩)),(12,.int .i64 (eI E bi s2)),(13,.string (aJ E s2).s)]) (fun _=>[.inl ⟨b,25,6,idx 0 (dG x2 u2)⟩,.inl ⟨b2,25,6,[]⟩,BB nb no2,BB lb lg2,RB E V xb s2]) ?_ ?_
   ·try repeat' (first|refine KZ ?_|(refine KB ?_ ?_<;>intro hp))
    all_goals try(exfalso;(simp_all;done))
    all_goals refine J1 () trivial
   rintro⟨⟩-;try dsimp only
   refine fK (ι:=Bool) (fun c=>c=(no2||decide (eI E bi s2=1))) (fun _=>μ2) (fun _=>[(0,.pointer (some ⟨xb,0,none⟩)),(1,.bool bi),(2,.int .i64 least),(3,.pointer (some ⟨nb,0,none⟩)),(4,.pointer (some ⟨lb,0,none⟩)),(10,.pointer (some ⟨b2,0,none⟩)),(11,.pointer (some ⟨b,0,none⟩)),(12,.int .i64 (eI E bi s2)),(13,.string (aJ E s2).s)]) (fun c=>[.inl ⟨b,25,6,idx 0 (dG x2 u2)⟩,.inl ⟨b2,25,6,[]⟩,BB nb c,BB lb lg2,RB E V xb s2]) ?_ ?_
   ·try repeat' (first|refine KZ ?_|(refine KB ?_ ?_<;>intro hp))
    all_goals(refine J1 _ ?_;(simp_all;done))
   rintro _ rfl;try dsimp only
   refine fK (ι:=Bool) (fun c=>c=(lg2||decide (eI E bi s2=2)||decide (eI E bi s2=3))) (fun _=>μ2) (fun _=>[(0,.pointer (some ⟨xb,0,none⟩)),(1,.bool bi),(2,.int .i64 least),(3,.pointer (some ⟨nb,0,none⟩)),(4,.pointer (some ⟨lb,0,none⟩)),(10,.pointer (some ⟨b2,0,none⟩)),(11,.pointer (some ⟨b,0,none⟩)),(12,.int .i64 (eI E bi s2)),(13,.string (aJ E s2).s)]) (fun c=>[.inl ⟨b,25,6,idx 0 (dG x2 u2)⟩,.inl ⟨b2,25,6,[]⟩,BB nb (no2||decide (eI E bi s2=1)),BB lb c,RB E V xb s2]) ?_ ?_
   ·try repeat' (first|refine KZ ?_|(refine KB ?_ ?_<;>intro hp))
    all_goals(refine J1 _ ?_;(simp_all;done))
   rintro _ rfl;try dsimp only
   by_cases r3:eI E bi s2≤3
   ·rw[if_pos r3]at hJ;try repeat' (first|refine KO ?_|(refine CF 42 ?_;refine GP1 rfl (bN (by assumption) (by assumption) (hm.mono ML)) ?_;dsimp only[ca,na])|(refine CF 115 ?_;refine nY (L' :=[.inl ⟨b,25,6,idx 0 (dG x2 u2)⟩,.inl ⟨b2,25,6,[]⟩,BB nb (or no2 (decide (eI E bi s2=1))),BB lb (or (or lg2 (decide (eI E bi s2=2))) (decide (eI E bi s2=3))),RB E V xb s3]) PS ?_;(with_reducible apply aFk);(iterate 3 exact rfl);exact EN;exact rfl;exact(h4 _ ML);(rintro v4 μ4 l ⟨u4,rfl,k⟩;have o_u4:=k.one;have H4:MLe μ μ4:=MLe.trans ML l;have d:=d.mono l);dsimp only[ca,na])|refine KZ ?_|refine XS0 ?_|refine NB fun b=>?_)
    all_goals(refine EL rfl ?_;rintro μ9 j p;have H9:MLe μ μ9:=MLe.trans ML j;have d:=d.mono j;have k:=k.mono j)
    all_goals refine J2 (f,T.mk 45 x2.at' 0 0 (aJ E s2).s [x2,x4.1],.slice (some ⟨_,0,none⟩) 2 2,x4.2.1,x4.2.2,s4,μ9) ⟨H9,KR.eT [(x2,u2),(x4.1,u4)] p rfl (by repeat first|exact bH|refine bA rfl ?_) (Kids.cons d (Kids.cons k (Kids.nil _))),ab,fun e=>by dsimp only at e⊢;omega,by dsimp only;omega,hJ⟩ (by dsimp only;omega)
   ·rw[if_neg r3]at hJ;try repeat' (first|refine KO ?_|(refine CF 42 ?_;refine GP1 rfl (bN (by assumption) (by assumption) (hm.mono ML)) ?_;dsimp only[ca,na])|(refine CF 115 ?_;refine nY (L' :=[.inl ⟨b,25,6,idx 0 (dG x2 u2)⟩,.inl ⟨b2,25,6,[]⟩,BB nb (or no2 (decide (eI E bi s2=1))),BB lb (or (or lg2 (decide (eI E bi s2=2))) (decide (eI E bi s2=3))),RB E V xb s3]) PS ?_;(with_reducible apply aFk);(iterate 3 exact rfl);exact EN;exact rfl;exact(h4 _ ML);(rintro v4 μ4 l ⟨u4,rfl,k⟩;have o_u4:=k.one;have H4:MLe μ μ4:=MLe.trans ML l;have d:=d.mono l);dsimp only[ca,na])|refine KZ ?_|refine XS0 ?_|refine NB fun b=>?_)
    all_goals(refine EL rfl ?_;rintro μ9 j p;have H9:MLe μ μ9:=MLe.trans ML j;have d:=d.mono j;have k:=k.mono j)
    all_goals refine J2 (f,T.mk 44 x2.at' 0 0 (aJ E s2).s [x2,x4.1],.slice (some ⟨_,0,none⟩) 2 2,x4.2.1,x4.2.2,s4,μ9) ⟨H9,KR.eT [(x2,u2),(x4.1,u4)] p rfl (by repeat first|exact bH|refine bA rfl ?_) (Kids.cons d (Kids.cons k (Kids.nil _))),ab,fun e=>by dsimp only at e⊢;omega,by dsimp only;omega,hJ⟩ (by dsimp only;omega)
 ·have ad:uI E r bi least f x2 no2 lg2 s2=((x2,no2,lg2),s2):=by
   cases f with
   |zero=>rfl
   |succ f=>rw[uI,if_pos he]
  rw[ad]at hJ;subst hJ x;try repeat' (first|refine KZ ?_|refine XS1 ?_)
  all_goals(apply IV u rfl;exact(RG 1 rfl rfl rfl rfl rfl);exact rfl;exact .refl _;exact .refl _;exact .refl _;exact fun μ' hle y=>d.mono hle)
end
end
end Go.Proofs.YtknieidhopbngaaGreat
