/- Package early: function, walked. -/
import Derived.Test.YtlllalmkkaolfaaGreatDoorUaj
set_option maxRecDepth 20000
set_option maxHeartbeats 2000000
namespace Go.Proofs.YtlllalmkkaolfaaGreatDoor
section
open Go.RowKit Go.Vcg Ou
def aKg(wd:ByteArray→Int)(t:T)(p:EP)(s:ES):ES:=if t.s≠⟨#[]⟩then nO wd t t.s { p with strict:=(inP t p).strict } s else s
def aKf(t:T)(p:EP)(own:Bool)(s:ES):ES:=if pS t.n 1 then rV t.at' t.s ⟨!own,if own then p.regs else mB p,0,false⟩ s else s
def aOf(t:T)(p:EP):Bool:=(inP t p).strict||pS t.n 2||pS t.n 8|| !pD (cJ t 0)
theorem aOg(wd:ByteArray→Int)(N:T→EP→ES→ES)(B:T→EP→ED→ES→ES)(t:T)(p:EP)(own:Bool)(s:ES):UO wd N B t p own s=
 (let s3:=aKf t p own (iX (qG t&& !pD (cJ t 0)) t.at' 35 (aKg wd t p s))
 let i:=iE (inP t p) s3
 let s5:=(cJ t 0).kids.foldl (fun s k=>B k { i with head:=true } ⟨false,i.regs,((eX s3).regs:Int),aOf t p⟩ s) (eX s3)
 if(cJ t 1).op≠6 then N (cJ t 1) i s5 else nC N (cJ t 1).kids { i with own:=true } s5):=rfl
def inE(ist g:Bool):EP:=⟨ist,g,true,false,[],[],[],false,false,[],false,false⟩
theorem aN1(wd:ByteArray→Int)(t:T)(p:EP)(s:ES):Gr FF 0 s (aKg wd t p s):=by
 unfold aKg;split
 ·exact rG _ _ _ _ _
 ·exact Gr.refl s
theorem aN0(t:T)(p:EP)(own:Bool)(s:ES):Gr FF 1 s (aKf t p own s):=by
 unfold aKf;split
 ·exact UF _ _ _ _ (fun h=>h)
 ·exact Gr.refl s
theorem pR(n k:Int)(b:Bool)(h:pS n k=b)(w:World)(μ:Mem)(hμ:MOk μ w):bC 137 #[.int .i64 n,.int .i64 k] w (.bool b):=by
 subst h;exact aAa n k w μ hμ
attribute [local irreducible] wdL anI nW mkD G GC GQ GA eV Calls IntKind.wrap Int.decLt Int.decLe
theorem aHa(N:T→EP→ES→ES)(B:T→EP→ED→ES→ES)(t:T)(hq:dJ qE t)(h4:t.op=4)(dd:t.size≤80000)(hN:∀k,dJ qE k→k.size<t.size→NCk N k∧NG N k)(al:∀k,dJ qE k→k.size<t.size→BCk B k∧BG B k)
 (xb mb:Nat)(u pv:Value)(p:EP)(own:Bool)(s:ES)(μ:Mem)(hk:KR μ t.kids u)(hp:PV μ p pv)(hB:PB p t.size)(hS:SB s t.size)(hm:vN μ):
 CEs 99 [.pointer (some ⟨xb,0,none⟩),.agg (cO t u).toArray,pv,.bool own] xb mb s (UO wdF N B t p own s) μ:=by
 intro w fs hμ j hO;have bm:=dW hO.diff;have ct:=hp;obtain⟨r,lb,lo,mi,rfl,ax,bc,bb,ba⟩:=hp;have o1:=ax.one;have o2:=bc.one;have o3:=bb.one;have o4:=ba.one;have bw:=ax;obtain⟨Ar,cr,rfl,-,-⟩:=bw;have ou:=hk.one;have c4:=hq.here.2;have hne:=hB.ne;have de:=hB.regs;have h2:=hq.here.1.two (by simp[h4]);have cp:=aS t;obtain⟨rr,cs⟩:=yT h2;rw[cs,bK,bK]at cp;have dc:=aS (cJ t 0);have db:=aS (cJ t 1);have ck:=hq.kid (eQ (t:=t) (i:=0) (by omega));have cj:=hq.kid (eQ (t:=t) (i:=1) (by omega));have da:=iG (cJ t 0).kids;have c9:=iG (cJ t 1).kids;obtain⟨nv,b0,aq⟩:=HQ μ p _ ct hne (by omega);have bz:=b0;obtain⟨An,cn,rfl,-,-⟩:=bz;have dh:(mB p).length≤100000:=by unfold mB;rw[dA];omega
 have df:p.regs.length≤100000:=by omega
 have ca:=hk;obtain⟨A,c,rfl,hcap,bk⟩:=hk.form;obtain⟨ad,x0,rfl,b6,c8,cb⟩:=bk 0 _ (iV (by omega));obtain⟨ad',x1,e,cv,c7,cw⟩:=bk 1 _ (iV (by omega));cases e;generalize v:UO wdF N B t p own s=s';rw[aOg]at v;dsimp only at v;have g1:=aN1 wdF t p s;obtain⟨S1,ag⟩:∃S,aKg wdF t p s=S:=⟨_,rfl⟩;rw[ag]at v g1;have a1:=fun w μc hw (hle:MLe μ μc)=>GL t _ w μc hw (ca.mono hle) (by omega);have a6:=fun w μc hw (hle:MLe μ μc)=>UY (cJ t 0) _ w μc hw (cb.mono hle) (by omega);obtain⟨says,ao⟩:∃b,qG t=b:=⟨_,rfl⟩;obtain⟨ist,au⟩:∃b,(p.strict||says)=b:=⟨_,rfl⟩;have hin:inP t p=inE ist (pS t.n 4):=by unfold inP inE;rw[ao,au]
 obtain⟨sm,bs⟩:∃b,pD (cJ t 0)=b:=⟨_,rfl⟩;rw[ao]at v a1;rw[hin]at v;rw[bs]at v a6;have g2:=mC (F:=FF) (says&& !sm) t.at' 35 S1;obtain⟨S2,cl⟩:∃S,iX (says&& !sm) t.at' 35 S1=S:=⟨_,rfl⟩;rw[cl]at v g2;have g3:=aN0 t p own S2;obtain⟨S3,z⟩:∃S,aKf t p own S2=S:=⟨_,rfl⟩;rw[z]at v g3;have an:DH S2.names≤1000000:=by have:=(g1.trans g2 (aC _)).wt;unfold SB at hS;omega
 have bo:S3.regs≤1000000:=by have:=((g1.trans g2 (aC _)).trans g3 (aC _)).wt;unfold SB at hS;omega
 have a8:SB (eX S3) (szs (cJ t 0).kids+ (cJ t 1).size):=by have:=(((g1.trans g2 (aC _)).trans g3 (aC _)).trans (tZ S3) (aC _)).wt;unfold SB at hS⊢;omega
 have hT:aOf t p=(ist||pS t.n 2||pS t.n 8|| !sm):=by unfold aOf;rw[hin,bs];rfl
 refine cI Tryz.func99 rfl Tryz.ntmps99 (by simp) hμ hO ?_;try repeat' (first|((with_reducible show GC _ _ (Code.seq (Code.region 2 _ _) _) _ _ _ _);(apply dX))|refine KO ?_|refine K2 49 a1 ?_|refine KZ ?_|refine NB fun b=>?_)
 rename_i bn;obtain⟨bp,cg⟩:∃y,y=b:=⟨_,rfl⟩;rw[←cg];clear cg;refine gcs (iT (ι:=Nat) (fun _=>True) (fun _=>μ) (fun bi=>[(0,.pointer (some ⟨xb,0,none⟩)),(3,.bool own),(5,.pointer (some ⟨bn,0,none⟩)),(6,.pointer (some ⟨bp,0,none⟩)),(8,.bool says),(9,.pointer (some ⟨bi,0,none⟩))]) (fun bi=>.inl ⟨bi,101,12,idx 0 (nL (inE ist (pS t.n 4)) (.slice none 0 0) (.slice none 0 0) (.slice none 0 0) (.slice none 0 0))⟩::.inl ⟨bp,101,12,idx 0 (nL p (.slice Ar p.regs.length cr) lb lo mi)⟩::.inl ⟨bn,24,6,idx 0 (cO t (.slice (some ad) t.kids.length c))⟩::EB xb mb s fs) ?_ ?_)
 ·try repeat' (first|refine KO ?_|refine K2 137 (fun w μc hw l=>pR t.n 4 _ rfl w μc hw) ?_|refine KZ ?_|refine NB fun b=>?_|(refine KB ?_ ?_<;>intro hp))
  ·obtain rfl:true=ist:=by rw[←au,hp];rfl
   exact fJ b trivial rfl PU (fA (.cells PU) (fA (.cells PU) (fA (.cells PU) (gB _))))
  obtain rfl:says=ist:=by rw[←au,hp];rfl
  exact fJ b trivial rfl PU (fA (.cells PU) (fA (.cells PU) (fA (.cells PU) (gB _))))
 rintro bi-;refine iT (ι:=Mem×List FR) (fun q=>MLe μ q.1∧ER q.1 q.2 S1) (fun q=>q.1) (fun _=>[(0,.pointer (some ⟨xb,0,none⟩)),(3,.bool own),(5,.pointer (some ⟨bn,0,none⟩)),(6,.pointer (some ⟨bp,0,none⟩)),(8,.bool says),(9,.pointer (some ⟨bi,0,none⟩))]) (fun q=>.inl ⟨bi,101,12,idx 0 (nL (inE ist (pS t.n 4)) (.slice none 0 0) (.slice none 0 0) (.slice none 0 0) (.slice none 0 0))⟩::.inl ⟨bp,101,12,idx 0 (nL p (.slice Ar p.regs.length cr) lb lo mi)⟩::.inl ⟨bn,24,6,idx 0 (cO t (.slice (some ad) t.kids.length c))⟩::EB xb mb S1 q.2) ?_ ?_
 ·unfold aKg at ag;by_cases bf:t.s=⟨#[]⟩
  ·rw[if_neg (fun h=>h bf)]at ag;subst ag;try repeat' (first|refine KZ ?_|refine NB fun b=>?_|(refine KB ?_ ?_<;>intro hp))
   all_goals try(exfalso;contradiction)
   all_goals exact fJ (μ,fs) ⟨MLe.refl _,j⟩ rfl PU (fA (.cells PU) (fA (.cells PU) (fA (.cells PU) (gB _))))
  ·rw[if_pos bf,hin]at ag;try repeat' (first|refine KO ?_|(refine CF 105 ?_;refine jP 4 rfl rfl rfl EN rfl j (sK xb mb t _ ou _ (by omega) { p with strict:=ist } _ _ _ ⟨_,_,_,_,rfl,ax,bc,bb,ba⟩ hm) ?_;intro v1 μ1 i1 o j;dsimp only[aU,aY])|refine KZ ?_|refine NB fun b=>?_)
   have ag:nO wdF t t.s { p with strict:=ist } s=S1:=ag;rw[ag]at j⊢;exact fJ (μ1,i1) ⟨o,j⟩ rfl PU (eB (.cells PU) (eB (.cells PU) (eB (.cells PU) (bY _ (gB _)))))
 rintro⟨μ2,i2⟩ ⟨f,j⟩;dsimp only at f j⊢;have aj:=b6.mono f;try repeat' (first|((with_reducible show GC _ _ (Code.seq (Code.region 8 _ _) _) _ _ _ _);(apply dX))|refine KO ?_|refine K2 138 (fun w μc hw l=>a6 w μc hw (f.trans l)) ?_|(refine KV (b:=by first|exact U1 0|exact U4 aj) (c:=?_))|refine KZ ?_)
 refine gcs (iT (ι:=Mem×List FR) (fun q=>MLe μ q.1∧ER q.1 q.2 S2) (fun q=>q.1) (fun _=>[(0,.pointer (some ⟨xb,0,none⟩)),(3,.bool own),(5,.pointer (some ⟨bn,0,none⟩)),(6,.pointer (some ⟨bp,0,none⟩)),(9,.pointer (some ⟨bi,0,none⟩)),(11,.bool sm)]) (fun q=>.inl ⟨bi,101,12,idx 0 (nL (inE ist (pS t.n 4)) (.slice none 0 0) (.slice none 0 0) (.slice none 0 0) (.slice none 0 0))⟩::.inl ⟨bp,101,12,idx 0 (nL p (.slice Ar p.regs.length cr) lb lo mi)⟩::.inl ⟨bn,24,6,idx 0 (cO t (.slice (some ad) t.kids.length c))⟩::EB xb mb S2 q.2) ?_ ?_)
 ·try repeat' (first|refine KO ?_|(refine CF 106 ?_;refine jP 3 rfl rfl rfl EN rfl j (OU xb mb t _ ou _ (says&& !sm) (by simp_all) _ _ _) ?_;intro v1 μ1 i1 o j;dsimp only[aU,aY])|refine KZ ?_|(refine KB ?_ ?_<;>intro hp))
  all_goals rw[cl]at j⊢
  all_goals exact fJ (μ1,i1) ⟨f.trans o,j⟩ rfl PU (fA (.cells PU) (fA (.cells PU) (fA (.cells PU) (gB _))))
 clear f j aj;rintro⟨μ2,i2⟩ ⟨f,j⟩;dsimp only at f j⊢;refine iT (ι:=Mem×List FR) (fun q=>MLe μ q.1∧ER q.1 q.2 S3) (fun q=>q.1) (fun _=>[(0,.pointer (some ⟨xb,0,none⟩)),(5,.pointer (some ⟨bn,0,none⟩)),(9,.pointer (some ⟨bi,0,none⟩)),(11,.bool sm)]) (fun q=>.inl ⟨bi,101,12,idx 0 (nL (inE ist (pS t.n 4)) (.slice none 0 0) (.slice none 0 0) (.slice none 0 0) (.slice none 0 0))⟩::.inl ⟨bn,24,6,idx 0 (cO t (.slice (some ad) t.kids.length c))⟩::EB xb mb S3 q.2) ?_ ?_
 ·unfold aKf at z;obtain⟨b1,az⟩:∃b,pS t.n 1=b:=⟨_,rfl⟩;rw[az]at z;have bu:=ax.mono f;have bx:=b0.mono f;cases b1
  ·rw[if_neg (by simp)]at z;subst z;try repeat' (first|refine KO ?_|refine K2 137 (fun w μc hw l=>pR t.n 1 _ az w μc hw) ?_|refine KZ ?_)
   all_goals exact fJ (μ2,i2) ⟨f,j⟩ rfl PU (fA (.cells PU) (eB (.cells PU) (bY _ (gB _))))
  ·rw[if_pos rfl]at z;cases own
   ·try repeat' (first|refine KO ?_|refine K2 137 (fun w μc hw l=>pR t.n 1 _ az w μc hw) ?_|refine K2 102 (fun w μc hw l=>aq w μc hw (f.trans l)) ?_|(refine CF 139 ?_;refine jP 4 rfl rfl rfl EN rfl j (yI xb mb t _ ou t.s ⟨true,mB p,0,false⟩ _ _ _ bx (by simp only[];omega) an) ?_;intro v1 μ1 i1 o j;dsimp only[aU,aY])|refine KZ ?_|refine NB fun b=>?_)
    have z:rV t.at' t.s ⟨true,mB p,0,false⟩ S2=S3:=z;rw[z]at j⊢;exact fJ (μ1,i1) ⟨f.trans o,j⟩ rfl PU (eB (.cells PU) (tB (.cells PU) (bY _ (bY _ (gB _)))))
   ·try repeat' (first|refine KO ?_|refine K2 137 (fun w μc hw l=>pR t.n 1 _ az w μc hw) ?_|refine K2 102 (fun w μc hw l=>aq w μc hw (f.trans l)) ?_|(refine CF 139 ?_;refine jP 4 rfl rfl rfl EN rfl j (yI xb mb t _ ou t.s ⟨false,p.regs,0,false⟩ _ _ _ bu (by simp only[];omega) an) ?_;intro v1 μ1 i1 o j;dsimp only[aU,aY])|refine KZ ?_|refine NB fun b=>?_)
    have z:rV t.at' t.s ⟨false,p.regs,0,false⟩ S2=S3:=z;rw[z]at j⊢;exact fJ (μ1,i1) ⟨f.trans o,j⟩ rfl PU (eB (.cells PU) (tB (.cells PU) (bY _ (bY _ (gB _)))))
 clear f j;rintro⟨μ2,i2⟩ ⟨f,j⟩;dsimp only at f j⊢;try repeat' (first|((with_reducible show GC _ _ (Code.seq (Code.region 17 _ _) _) _ _ _ _);(apply dX))|refine KO ?_|(refine CF 100 ?_;refine ZA 2 rfl rfl rfl EN rfl j (wO xb mb (inE ist (pS t.n 4)) _ _ _ ⟨_,_,_,_,rfl,IsV.nil _,SsV.nil _,SsV.nil _,SsV.nil _⟩ (aN _) bo) ?_;intro v1 μ1 i1 o j c0;dsimp only[aU,aY];obtain⟨r2,lb2,lo2,mi2,rfl,ah,af,ae,ab⟩:=c0;have q1:=ah.one;have q2:=af.one;have q3:=ae.one;have q4:=ab.one)|refine KZ ?_|refine NB fun b=>?_)
 obtain⟨bh,ch⟩:∃y,y=b:=⟨_,rfl⟩;rw[←ch];clear ch;have bt:=ah;obtain⟨Ai,ci,rfl,-,-⟩:=bt;have cf:(iE (inE ist (pS t.n 4)) S3).strict=ist:=rfl;have aa:∀n,n≤80000→PB (iE (inE ist (pS t.n 4)) S3) n:=fun n hn=>⟨Nat.succ_pos _,by show 1+n≤90000;omega,by show 0+n≤90000;omega,aC _⟩;have cd:(iE (inE ist (pS t.n 4)) S3).regs.length≤100000:=by show 1≤_;omega
 generalize iE (inE ist (pS t.n 4)) S3=iP at v ah af ae ab cf aa cd⊢;obtain⟨tw,cm⟩:∃b,aOf t p=b:=⟨_,rfl⟩;rw[cm]at v hT;rw[←cf]at hT;refine gcs ?_;refine lT (show _=_::_::_::Bk.inl ⟨xb,95,4,[(0,.map (some mb)),(1,.int .i64 ((eX S3).regs:Int)),(2,.int .i64 (eX S3).at'),(3,.int .i64 (eX S3).e)]⟩::.mp ⟨mb,mkD i1 0,i1.length⟩::nW i1 from rfl) ?_;refine iT (ι:=Nat×Bool) (fun q=>q.2=tw) (fun _=>μ1) (fun q=>[(14,.pointer (some ⟨q.1,0,none⟩)),(0,.pointer (some ⟨xb,0,none⟩)),(5,.pointer (some ⟨bn,0,none⟩)),(9,.pointer (some ⟨bi,0,none⟩)),(11,.bool sm),(13,.pointer (some ⟨bh,0,none⟩))]) (fun q=>.inl ⟨q.1,131,4,idx 0 (vF (⟨false,iP.regs,((eX S3).regs:Int),q.2⟩,.slice Ai iP.regs.length ci))⟩::.inl ⟨bh,101,12,idx 0 (nL { iP with head:=true } (.slice Ai iP.regs.length ci) lb2 lo2 mi2)⟩::.inl ⟨bi,101,12,idx 0 (nL iP (.slice Ai iP.regs.length ci) lb2 lo2 mi2)⟩::.inl ⟨bn,24,6,idx 0 (cO t (.slice (some ad) t.kids.length c))⟩::EB xb mb (eX S3) i1) ?_ ?_
 ·clear v;obtain⟨b2,cz⟩:∃b,pS t.n 2=b:=⟨_,rfl⟩;obtain⟨b8,cy⟩:∃b,pS t.n 8=b:=⟨_,rfl⟩;rw[cz,cy]at hT;obtain⟨st,gg,fnn,di,rg,lbs,los,lp,chh,mns,ow,ea⟩:=iP;dsimp only at hT;cases st
  rotate_left
  ·refine aZ 27 _ (by kernel_rfl) rfl (cP (aD (aD (aD aT)))) ?_;all_goals(refine DD 0 ?_;refine DD 1 ?_;refine DD 2 ?_;refine DD 3 ?_;refine DD 4 ?_;refine DD 5 ?_;refine DD 6 ?_;refine DD 7 ?_;refine DD 8 ?_;refine DD 9 ?_;refine DD 10 ?_;(try refine D7 11 ?_);refine DD 11 ?_;refine DD 12 ?_)
   refine iZ 13 25 (by kernel_rfl) ?dr5_13 ?dr5_25
   case' dr5_13=>
    (refine D6 ?_)
    all_goals(refine DD 14 ?_;refine DD 15 ?_;(try refine D7 16 ?_);refine DD 16 ?_;refine DD 17 ?_)
    refine iZ 18 25 (by kernel_rfl) ?dr6_18 ?dr6_25
    case' dr6_18=>
     (refine D6 ?_)
     all_goals(refine DD 19 ?_;refine DD 20 ?_;(try refine D7 21 ?_);refine DD 21 ?_;refine DD 22 ?_;refine DD 23 ?_;refine DD 24 ?_;refine D3 25 ?_;refine D5 ?_;refine NB fun b=>?_;refine D9 ?_;refine D3 26 ?_;refine D5 ?_;refine Y0 ?_;refine D9 ?_;refine D8 ?_)
    case' dr6_25=>
     (refine D5 ?_;refine NB fun b=>?_;refine D9 ?_)
     all_goals(refine D3 18 (D6 ?_);refine DD 19 ?_;refine DD 20 ?_)
     all_goals((try refine D7 21 ?_);refine DD 21 ?_;refine DD 22 ?_;refine DD 23 ?_;refine DD 24 ?_;refine D3 26 ?_;refine D5 ?_;refine Y0 ?_;refine D9 ?_;refine D8 ?_)
   case' dr5_25=>
    (refine D5 ?_;refine NB fun b=>?_;refine D9 ?_)
    all_goals(refine D3 13 (D6 ?_);refine DD 14 ?_;refine DD 15 ?_)
    all_goals try refine D7 16 ?_
    all_goals(refine DD 16 ?_;refine DD 17 ?_;refine D3 18 (D6 ?_);refine DD 19 ?_;refine DD 20 ?_)
    all_goals((try refine D7 21 ?_);refine DD 21 ?_;refine DD 22 ?_;refine DD 23 ?_;refine DD 24 ?_;refine D3 26 ?_;refine D5 ?_;refine Y0 ?_;refine D9 ?_;refine D8 ?_)
   all_goals refine fJ (b,_) ?_ rfl PU (fA (.cells PU) (fA (.cells PU) (fA (.cells PU) (fA (.cells PU) (gB _)))))
   all_goals dsimp only
   all_goals rw[hT]
   all_goals(clear hS hB hN al;cases sm<;>simp_all)
  cases b2
  rotate_left
  ·refine aZ 27 _ (by kernel_rfl) rfl (cP (aD (aD (aD aT)))) ?_;all_goals(refine DD 0 ?_;refine DD 1 ?_;refine DD 2 ?_;refine DD 3 ?_;refine DD 4 ?_;refine DD 5 ?_;refine DD 6 ?_;refine DD 7 ?_;refine DD 8 ?_;refine DD 9 ?_;refine DD 10 ?_;(try refine D7 11 ?_);refine DD 11 ?_;refine DD 12 ?_)
   refine iZ 13 25 (by kernel_rfl) ?dr7_13 ?dr7_25
   case' dr7_13=>
    (refine D5 ?_;(with_reducible apply F1 137);exact rfl;exact EN;exact fun w μc hw l=>pR t.n _ _ (by assumption) w μc hw;refine D9 ?_)
    all_goals(refine DD 14 ?_;refine DD 15 ?_;(try refine D7 16 ?_);refine DD 16 ?_;refine DD 17 ?_)
    refine iZ 18 25 (by kernel_rfl) ?dr8_18 ?dr8_25
    case' dr8_18=>
     (refine D6 ?_)
     all_goals(refine DD 19 ?_;refine DD 20 ?_;(try refine D7 21 ?_);refine DD 21 ?_;refine DD 22 ?_;refine DD 23 ?_;refine DD 24 ?_;refine D3 25 ?_;refine D5 ?_;refine NB fun b=>?_;refine D9 ?_;refine D3 26 ?_;refine D5 ?_;refine Y0 ?_;refine D9 ?_;refine D8 ?_)
    case' dr8_25=>
     (refine D5 ?_;refine NB fun b=>?_;refine D9 ?_)
     all_goals(refine D3 18 (D6 ?_);refine DD 19 ?_;refine DD 20 ?_)
     all_goals((try refine D7 21 ?_);refine DD 21 ?_;refine DD 22 ?_;refine DD 23 ?_;refine DD 24 ?_;refine D3 26 ?_;refine D5 ?_;refine Y0 ?_;refine D9 ?_;refine D8 ?_)
   case' dr7_25=>
    (refine D5 ?_;refine NB fun b=>?_;refine D9 ?_)
    all_goals(refine D3 13 ?_;refine D5 ?_;(with_reducible apply F1 137);exact rfl;exact EN;exact fun w μc hw l=>pR t.n _ _ (by assumption) w μc hw;refine D9 ?_)
    all_goals(refine DD 14 ?_;refine DD 15 ?_;(try refine D7 16 ?_))
    all_goals(refine DD 16 ?_;refine DD 17 ?_;refine D3 18 (D6 ?_);refine DD 19 ?_;refine DD 20 ?_)
    all_goals((try refine D7 21 ?_);refine DD 21 ?_;refine DD 22 ?_;refine DD 23 ?_;refine DD 24 ?_;refine D3 26 ?_;refine D5 ?_;refine Y0 ?_;refine D9 ?_;refine D8 ?_)
   all_goals refine fJ (b,_) ?_ rfl PU (fA (.cells PU) (fA (.cells PU) (fA (.cells PU) (fA (.cells PU) (gB _)))))
   all_goals dsimp only
   all_goals rw[hT]
   all_goals(clear hS hB hN al;cases sm<;>simp_all)
  cases b8
  rotate_left
  ·refine aZ 27 _ (by kernel_rfl) rfl (cP (aD (aD (aD aT)))) ?_;all_goals(refine DD 0 ?_;refine DD 1 ?_;refine DD 2 ?_;refine DD 3 ?_;refine DD 4 ?_;refine DD 5 ?_;refine DD 6 ?_;refine DD 7 ?_;refine DD 8 ?_;refine DD 9 ?_;refine DD 10 ?_;(try refine D7 11 ?_);refine DD 11 ?_;refine DD 12 ?_)
   refine iZ 13 25 (by kernel_rfl) ?dr9_13 ?dr9_25
   case' dr9_13=>
    (refine D5 ?_;(with_reducible apply F1 137);exact rfl;exact EN;exact fun w μc hw l=>pR t.n _ _ (by assumption) w μc hw;refine D9 ?_)
    all_goals(refine DD 14 ?_;refine DD 15 ?_;(try refine D7 16 ?_);refine DD 16 ?_;refine DD 17 ?_)
    refine iZ 18 25 (by kernel_rfl) ?dr10_18 ?dr10_25
    case' dr10_18=>
     (refine D5 ?_;(with_reducible apply F1 137);exact rfl;exact EN;exact fun w μc hw l=>pR t.n _ _ (by assumption) w μc hw;refine D9 ?_)
     all_goals(refine DD 19 ?_;refine DD 20 ?_;(try refine D7 21 ?_);refine DD 21 ?_;refine DD 22 ?_;refine DD 23 ?_;refine DD 24 ?_;refine D3 25 ?_;refine D5 ?_;refine NB fun b=>?_;refine D9 ?_;refine D3 26 ?_;refine D5 ?_;refine Y0 ?_;refine D9 ?_;refine D8 ?_)
    case' dr10_25=>
     (refine D5 ?_;refine NB fun b=>?_;refine D9 ?_)
     all_goals(refine D3 18 ?_;refine D5 ?_;(with_reducible apply F1 137);exact rfl;exact EN;exact fun w μc hw l=>pR t.n _ _ (by assumption) w μc hw;refine D9 ?_)
     all_goals(refine DD 19 ?_;refine DD 20 ?_;(try refine D7 21 ?_);refine DD 21 ?_;refine DD 22 ?_;refine DD 23 ?_;refine DD 24 ?_;refine D3 26 ?_;refine D5 ?_;refine Y0 ?_;refine D9 ?_;refine D8 ?_)
   case' dr9_25=>
    (refine D5 ?_;refine NB fun b=>?_;refine D9 ?_)
    all_goals(refine D3 13 ?_;refine D5 ?_;(with_reducible apply F1 137);exact rfl;exact EN;exact fun w μc hw l=>pR t.n _ _ (by assumption) w μc hw;refine D9 ?_)
    all_goals(refine DD 14 ?_;refine DD 15 ?_;(try refine D7 16 ?_);refine DD 16 ?_;refine DD 17 ?_)
    all_goals(refine D3 18 ?_;refine D5 ?_;(with_reducible apply F1 137);exact rfl;exact EN;exact fun w μc hw l=>pR t.n _ _ (by assumption) w μc hw;refine D9 ?_)
    all_goals(refine DD 19 ?_;refine DD 20 ?_;(try refine D7 21 ?_);refine DD 21 ?_;refine DD 22 ?_;refine DD 23 ?_;refine DD 24 ?_;refine D3 26 ?_;refine D5 ?_;refine Y0 ?_;refine D9 ?_;refine D8 ?_)
   all_goals refine fJ (b,_) ?_ rfl PU (fA (.cells PU) (fA (.cells PU) (fA (.cells PU) (fA (.cells PU) (gB _)))))
   all_goals dsimp only
   all_goals rw[hT]
   all_goals(clear hS hB hN al;cases sm<;>simp_all)
  ·refine aZ 27 _ (by kernel_rfl) rfl (cP (aD (aD (aD aT)))) ?_;all_goals(refine DD 0 ?_;refine DD 1 ?_;refine DD 2 ?_;refine DD 3 ?_;refine DD 4 ?_;refine DD 5 ?_;refine DD 6 ?_;refine DD 7 ?_;refine DD 8 ?_;refine DD 9 ?_;refine DD 10 ?_;(try refine D7 11 ?_);refine DD 11 ?_;refine DD 12 ?_)
   refine iZ 13 25 (by kernel_rfl) ?dr11_13 ?dr11_25
   case' dr11_13=>
    (refine D5 ?_;(with_reducible apply F1 137);exact rfl;exact EN;exact fun w μc hw l=>pR t.n _ _ (by assumption) w μc hw;refine D9 ?_)
    all_goals(refine DD 14 ?_;refine DD 15 ?_;(try refine D7 16 ?_);refine DD 16 ?_;refine DD 17 ?_)
    refine iZ 18 25 (by kernel_rfl) ?dr12_18 ?dr12_25
    case' dr12_18=>
     (refine D5 ?_;(with_reducible apply F1 137);exact rfl;exact EN;exact fun w μc hw l=>pR t.n _ _ (by assumption) w μc hw;refine D9 ?_)
     all_goals(refine DD 19 ?_;refine DD 20 ?_;(try refine D7 21 ?_);refine DD 21 ?_;refine DD 22 ?_;refine DD 23 ?_;refine DD 24 ?_;refine D3 25 ?_;refine D5 ?_;refine NB fun b=>?_;refine D9 ?_;refine D3 26 ?_;refine D5 ?_;refine Y0 ?_;refine D9 ?_;refine D8 ?_)
    case' dr12_25=>
     (refine D5 ?_;refine NB fun b=>?_;refine D9 ?_)
     all_goals(refine D3 18 ?_;refine D5 ?_;(with_reducible apply F1 137);exact rfl;exact EN;exact fun w μc hw l=>pR t.n _ _ (by assumption) w μc hw;refine D9 ?_)
     all_goals(refine DD 19 ?_;refine DD 20 ?_;(try refine D7 21 ?_);refine DD 21 ?_;refine DD 22 ?_;refine DD 23 ?_;refine DD 24 ?_;refine D3 26 ?_;refine D5 ?_;refine Y0 ?_;refine D9 ?_;refine D8 ?_)
   case' dr11_25=>
    (refine D5 ?_;refine NB fun b=>?_;refine D9 ?_)
    all_goals(refine D3 13 ?_;refine D5 ?_;(with_reducible apply F1 137);exact rfl;exact EN;exact fun w μc hw l=>pR t.n _ _ (by assumption) w μc hw;refine D9 ?_)
    all_goals(refine DD 14 ?_;refine DD 15 ?_;(try refine D7 16 ?_);refine DD 16 ?_;refine DD 17 ?_)
    all_goals(refine D3 18 ?_;refine D5 ?_;(with_reducible apply F1 137);exact rfl;exact EN;exact fun w μc hw l=>pR t.n _ _ (by assumption) w μc hw;refine D9 ?_)
    all_goals(refine DD 19 ?_;refine DD 20 ?_;(try refine D7 21 ?_);refine DD 21 ?_;refine DD 22 ?_;refine DD 23 ?_;refine DD 24 ?_;refine D3 26 ?_;refine D5 ?_;refine Y0 ?_;refine D9 ?_;refine D8 ?_)
   all_goals refine fJ (b,_) ?_ rfl PU (fA (.cells PU) (fA (.cells PU) (fA (.cells PU) (fA (.cells PU) (gB _)))))
   all_goals dsimp only
   all_goals rw[hT]
   all_goals(clear hS hB hN al;cases sm<;>simp_all)
 rintro⟨bd,x⟩ hx;dsimp only at hx⊢;subst x;have ak:=f.trans o;have b9:=cb.mono ak;have aj:=b6.mono ak;obtain⟨A2,c2,rfl,cx,br⟩:=b9.form;try repeat' (first|refine KO ?_|(refine KV (b:=by first|exact U1 0|exact U4 aj) (c:=?_))|refine KZ ?_)
 refine cD (ι:=Nat×Mem×List FR) (fun q=>q.1≤(cJ t 0).kids.length∧MLe μ1 q.2.1∧ER q.2.1 q.2.2 (((cJ t 0).kids.take q.1).foldl (fun s k=>B k { iP with head:=true } ⟨false,iP.regs,((eX S3).regs:Int),tw⟩ s) (eX S3))) (fun q=>(cJ t 0).kids.length-q.1) (fun q=>q.2.1) (fun q=>[(114,.int .i64 (q.1:Int)),(113,.int .i64 ((cJ t 0).kids.length:Int)),(112,.slice A2 (cJ t 0).kids.length c2),(0,.pointer (some ⟨xb,0,none⟩)),(5,.pointer (some ⟨bn,0,none⟩)),(9,.pointer (some ⟨bi,0,none⟩)),(13,.pointer (some ⟨bh,0,none⟩)),(14,.pointer (some ⟨bd,0,none⟩))]) (fun q=>.inl ⟨bd,131,4,idx 0 (vF (⟨false,iP.regs,((eX S3).regs:Int),tw⟩,.slice Ai iP.regs.length ci))⟩::.inl ⟨bh,101,12,idx 0 (nL { iP with head:=true } (.slice Ai iP.regs.length ci) lb2 lo2 mi2)⟩::.inl ⟨bi,101,12,idx 0 (nL iP (.slice Ai iP.regs.length ci) lb2 lo2 mi2)⟩::.inl ⟨bn,24,6,idx 0 (cO t (.slice (some ad) t.kids.length c))⟩::EB xb mb (((cJ t 0).kids.take q.1).foldl (fun s k=>B k { iP with head:=true } ⟨false,iP.regs,((eX S3).regs:Int),tw⟩ s) (eX S3)) q.2.2) (0,μ1,i1) ⟨aN _,MLe.refl _,j⟩ (fun a w hs=>hs.sel PU (gB _)) ?_;clear j;rintro⟨i,μ0,fs0⟩ ⟨hi,hle,j⟩;dsimp only at hi hle j⊢;have bj:∀n,Gr FF (2*szs ((cJ t 0).kids.take n)) (eX S3) (((cJ t 0).kids.take n).foldl (fun s k=>B k { iP with head:=true } ⟨false,iP.regs,((eX S3).regs:Int),tw⟩ s) (eX S3)):=fun n=>by
  have h9:=pF (F:=FF) (g:=(fun s k=>B k { iP with head:=true } ⟨false,iP.regs,((eX S3).regs:Int),tw⟩ s)) (c:=fun k=>2*T.size k) ((cJ t 0).kids.take n) (eX S3) (fun k hk s=>(al k (ck.kid (bE hk)) (by
   have:k.size≤szs (cJ t 0).kids:=T.eL (List.mem_map.2 ⟨k,bE hk,rfl⟩);omega)).2 _ _ _)
  rwa[rB]at h9
 by_cases hlt:i< (cJ t 0).kids.length
 ·obtain⟨k,ay⟩:∃k,(cJ t 0).kids[i]? =some k:=⟨_,aA hlt⟩;obtain⟨ad3,x3,rfl,cu,c6,b7⟩:=br i k ay;have b4:=cu.mono hle;have b5:=aB ay;have hz:=kK ay;obtain⟨bq,-⟩:=al k (ck.kid b5) (by omega);have cq:=SB.gr (n:=szs ((cJ t 0).kids.take i)) (m:=k.size) (a8.mono (by omega)) (bj i);have ap:(fun s k=>B k { iP with head:=true } ⟨false,iP.regs,((eX S3).regs:Int),tw⟩ s) (((cJ t 0).kids.take i).foldl (fun s k=>B k { iP with head:=true } ⟨false,iP.regs,((eX S3).regs:Int),tw⟩ s) (eX S3)) k=(((cJ t 0).kids.take (i+1)).foldl (fun s k=>B k { iP with head:=true } ⟨false,iP.regs,((eX S3).regs:Int),tw⟩ s) (eX S3)):=(uI (fun s k=>B k { iP with head:=true } ⟨false,iP.regs,((eX S3).regs:Int),tw⟩ s) (cJ t 0).kids (eX S3) ay).symm;dsimp only at ap;try repeat' (first|refine KO ?_|(refine CF 101 ?_;refine jP 5 rfl rfl rfl EN rfl j (bq xb mb _ _ _ { iP with head:=true } ⟨false,iP.regs,((eX S3).regs:Int),tw⟩ _ _ (b7.mono hle) ⟨_,_,_,_,rfl,ah.mono hle,af.mono hle,ae.mono hle,ab.mono hle⟩ (ah.mono hle) cd ⟨(aa k.size (by omega)).ne,(aa k.size (by omega)).regs,(aa k.size (by omega)).labels,(aa k.size (by omega)).loops⟩ cq (hm.mono (ak.trans hle))) ?_;(intro v1 μ1 i1 o j);(dsimp only[aU,aY]))|(refine KV (b:=by first|exact U1 i|exact U4 b4) (c:=?_))|refine KZ ?_|refine NB fun b=>?_)
  rw[ap]at j⊢;exact cY (i+1,μ1,i1) ⟨by dsimp only;omega,hle.trans o,j⟩ (by dsimp only;omega) rfl PU (eB (.refl _) (eB (.refl _) (eB (.refl _) (eB (.refl _) (bY _ (gB _))))))
 ·have cc:i=(cJ t 0).kids.length:=by omega
  have av:=bj (cJ t 0).kids.length;subst cc;rw[aK (aC _)]at j av⊢;generalize (cJ t 0).kids.foldl (fun s k=>B k { iP with head:=true } ⟨false,iP.regs,((eX S3).regs:Int),tw⟩ s) (eX S3)=S5 at j v av⊢;have a7:=SB.gr (n:=szs (cJ t 0).kids) (m:=(cJ t 1).size) a8 av;have ar:=ak.trans hle;have ai:=cv.mono ar;have bg:=cw.mono ar;have b3:=hm.mono ar;by_cases h6:(cJ t 1).op=6
  ·rw[if_neg (fun h=>h h6)]at v;have c1:∀y∈(cJ t 1).kids,NCk N y∧NG N y:=fun y hy=>hN y (cj.kid hy) (by
    have:y.size≤szs (cJ t 1).kids:=T.eL (List.mem_map.2 ⟨y,hy,rfl⟩);omega)
   have aw:∀y∈(cJ t 1).kids,y.size≤80000:=fun y hy=>by have:y.size≤szs (cJ t 1).kids:=T.eL (List.mem_map.2 ⟨y,hy,rfl⟩);omega
   try repeat' (first|refine KO ?_|(refine KV (b:=by first|exact U1 1|exact U4 ai) (c:=?_))|refine KZ ?_)
   refine aZ 8 _ (by kernel_rfl) rfl (cP (cP (aD (aD aT)))) ?_;all_goals(refine DD 0 ?_;refine D1 1 ?_;refine DD 2 ?_;refine D2 3 rfl (by exact U1 1) ?_;refine DD 4 ?_;refine D2 5 rfl (by exact U4 ai) ?_;refine DD 6 ?_)
   all_goals(refine D3 7 ?_;refine D5 ?_;refine CF 48 ?_;refine jP 4 rfl rfl rfl EN rfl j (lK N (cJ t 1).kids _ _ { iP with own:=true } _ _ xb mb c1 bg ⟨_,_,_,_,rfl,ah.mono hle,af.mono hle,ae.mono hle,ab.mono hle⟩ (fun y hy=>⟨(aa y.size (aw y hy)).ne,(aa y.size (aw y hy)).regs,(aa y.size (aw y hy)).labels,(aa y.size (aw y hy)).loops⟩) (a7.mono (by omega)) (by omega) b3) ?_;intro v1 μ1 i1 o j;dsimp only[aU,aY];refine D9 ?_)
   all_goals refine D8 ?_
   all_goals exact gY 4 i1 (by exact .inr rfl) bm rfl rfl v j
  ·rw[if_pos h6]at v;obtain⟨bq,-⟩:=hN _ cj (by omega);try repeat' (first|refine KO ?_|(refine KV (b:=by first|exact U1 1|exact U4 ai) (c:=?_))|refine KZ ?_)
   refine aZ 7 _ (by kernel_rfl) rfl (cP (cP (aD (aD aT)))) ?_;all_goals(refine DD 0 ?_;refine D1 1 ?_;refine DD 2 ?_;refine D2 3 rfl (by exact U1 1) ?_;refine D2 4 rfl (by exact U4 ai) ?_;refine DD 5 ?_)
   all_goals(refine D3 6 ?_;refine D5 ?_;refine CF 71 ?_;refine jP 4 rfl rfl rfl EN rfl j (bq xb mb _ _ iP _ _ bg ⟨_,_,_,_,rfl,ah.mono hle,af.mono hle,ae.mono hle,ab.mono hle⟩ (aa _ (by omega)) a7 b3) ?_;intro v1 μ1 i1 o j;dsimp only[aU,aY];refine D9 ?_)
   all_goals refine D8 ?_
   all_goals try repeat' (refine KZ ?_)
   all_goals exact gY 4 i1 (by exact .inl rfl) bm rfl rfl v j
end
section
open Go.RowKit Go.Vcg Ou
theorem aGr{t:T}(h1:1≤t.kids.length):szs t.kids=szs (t.kids.take (t.kids.length-1))+ (cJ t (t.kids.length-1)).size:=by
 have a:t.kids=t.kids.take (t.kids.length-1)++[cJ t (t.kids.length-1)]:=by
  unfold cJ
  conv=>lhs;rw[←dN (t.kids.length-1) t.kids]
  congr 1;rw[eE (by omega),aA (by omega),List.drop_eq_nil_of_le (by omega)];rfl
 conv=>lhs;rw[a]
 rw[BE,bK];rfl
attribute [local irreducible] wdL anI nW mkD G GC GQ GA eV Calls IntKind.wrap Int.decLt Int.decLe
theorem aCh(N:T→EP→ES→ES)(t:T)(hq:dJ qE t)(ca:t.op=10∨t.op=11∨t.op=12∨t.op=13∨t.op=14)(b7:t.size≤80000)(hN:∀k,dJ qE k→k.size<t.size→NCk N k∧NG N k)
 (xb mb:Nat)(u pv mv:Value)(p:EP)(mine:List ByteArray)(s:ES)(μ:Mem)(hk:KR μ t.kids u)(hp:PV μ p pv)(o:SsV μ mv mine)(hB:PB p t.size)(bs:p.loops.length+mine.length+p.mine.length≤p.labels.length)(hS:SB s t.size)(hm:vN μ):
 CEs 103 [.pointer (some ⟨xb,0,none⟩),.agg (cO t u).toArray,pv,mv] xb mb s (FJ N t p mine s) μ:=by
 intro w fs hμ hR hO;have au:=dW hO.diff;have j:=hp;obtain⟨r,lb,lo,mi,rfl,bz,bk,bj,bi⟩:=hp;have o1:=bz.one;have o2:=bk.one;have o3:=bj.one;have o4:=bi.one;have ou:=hk.one;have br:=o;obtain⟨Am,cm,rfl,-,-⟩:=br;have b9:=hB.regs;have cb:=hB.labels;have bg:=aS t;have hlen:=iG t.kids;have hle:∀{k l},k∈l→T.size k≤szs l:=fun{k l} hk=>T.eL (List.mem_map.2 ⟨k,hk,rfl⟩);have bw:∀n,n<t.size→PB { p with loops:=p.loops++mine } n:=fun n hn=>⟨hB.ne,by show p.regs.length+n≤90000;omega,by show p.labels.length+n≤90000;omega,by show(p.loops++mine).length+p.mine.length≤p.labels.length;rw[aI];exact bs⟩;have a6:s.regs≤1000000:=by unfold SB at hS;omega
 obtain⟨A,c,rfl,hcap,ah⟩:=hk.form;generalize ab:FJ N t p mine s=s';unfold FJ at ab;refine cI Tryz.func103 rfl Tryz.ntmps103 (by simp) hμ hO ?_;by_cases bf:t.op=13
 ·rw[if_pos bf]at ab;have h2:=hq.here.1.two (by simp[bf]);obtain⟨rr,a1⟩:=yT h2;have hz:=bg;rw[a1,bK,bK]at hz;obtain⟨ad,x0,rfl,v,bo,ag⟩:=ah 0 _ (iV (by omega));obtain⟨ad',x1,e,aa,bm,af⟩:=ah 1 _ (iV (by omega));cases e;obtain⟨a7,bc⟩:=hN _ (hq.kid (eQ (t:=t) (i:=0) (by omega))) (by omega);obtain⟨ai,b4⟩:=hN _ (hq.kid (eQ (t:=t) (i:=1) (by omega))) (by omega);have ao:=SB.gr (s' :=N (cJ t 0) p s) (n:=(cJ t 0).size) (m:=(cJ t 1).size) (hS.mono (by omega)) (bc p s);try repeat' (first|refine KZ ?_|refine NB fun b=>?_)
  refine aZ 7 _ (by kernel_rfl) rfl (aD (aD aT)) ?_;all_goals(refine DD 0 ?_;refine D1 1 ?_;refine DD 2 ?_;refine D2 3 rfl (by exact U1 0) ?_;refine D2 4 rfl (by exact U4 v) ?_;refine DD 5 ?_)
  all_goals(refine D3 6 ?_;refine D5 ?_;refine CF 71 ?_;refine jP 2 rfl rfl rfl EN rfl hR (a7 xb mb _ _ p s _ ag j (hB.mono (by omega)) (hS.mono (by omega)) hm) ?_;intro v1 μ1 i1 f hR;dsimp only[aU,aY];have v:=v.mono f;have aa:=aa.mono f;have ag:=ag.mono f;have af:=af.mono f;have j:=j.mono f;have o:=o.mono f;have hm:=hm.mono f;refine D9 ?_)
  all_goals refine D8 ?_
  all_goals try repeat' (refine KZ ?_)
  refine aZ 8 _ (by kernel_rfl) rfl (aD (aD aT)) ?_;all_goals(refine DD 0 ?_;refine D1 1 ?_;refine DD 2 ?_;refine D2 3 rfl (by exact U1 1) ?_;refine D2 4 rfl (by exact U4 aa) ?_;refine DD 5 ?_;refine DD 6 ?_)
  all_goals(refine D3 7 ?_;refine D5 ?_;refine CF 141 ?_;refine jP 2 rfl rfl rfl EN rfl hR (AM N (cJ t 1) ai _ _ _ p mine _ _ xb mb af j o (bw _ (by omega)) ao hm) ?_;intro v1 μ1 i1 f hR;dsimp only[aU,aY];have v:=v.mono f;have aa:=aa.mono f;have ag:=ag.mono f;have af:=af.mono f;have j:=j.mono f;have o:=o.mono f;have hm:=hm.mono f;refine D9 ?_)
  all_goals refine D8 ?_
  all_goals try repeat' (refine KZ ?_)
  all_goals exact gY 2 i1 (by exact .inl rfl) au rfl rfl ab hR
 rw[if_neg bf]at ab;by_cases bd:t.op=14
 ·rw[if_pos bd]at ab;have h2:=hq.here.1.two (by simp[bd]);obtain⟨rr,a1⟩:=yT h2;have hz:=bg;rw[a1,bK,bK]at hz;obtain⟨ad,x0,rfl,v,bo,ag⟩:=ah 0 _ (iV (by omega));obtain⟨ad',x1,e,aa,bm,af⟩:=ah 1 _ (iV (by omega));cases e;obtain⟨a7,bc⟩:=hN _ (hq.kid (eQ (t:=t) (i:=0) (by omega))) (by omega);obtain⟨ai,b4⟩:=hN _ (hq.kid (eQ (t:=t) (i:=1) (by omega))) (by omega);have ao:=SB.gr (s' :=sA N (cJ t 0) p mine s) (n:=(cJ t 0).size) (m:=(cJ t 1).size) (hS.mono (by omega)) (AB (cJ t 0) (fun p s=>bc p s) _ s);try repeat' (first|refine KZ ?_|refine NB fun b=>?_)
  refine aZ 8 _ (by kernel_rfl) rfl (aD (aD aT)) ?_;all_goals(refine DD 0 ?_;refine D1 1 ?_;refine DD 2 ?_;refine D2 3 rfl (by exact U1 0) ?_;refine D2 4 rfl (by exact U4 v) ?_;refine DD 5 ?_;refine DD 6 ?_)
  all_goals(refine D3 7 ?_;refine D5 ?_;refine CF 141 ?_;refine jP 2 rfl rfl rfl EN rfl hR (AM N (cJ t 0) a7 _ _ _ p mine _ _ xb mb ag j o (bw _ (by omega)) (hS.mono (by omega)) hm) ?_;intro v1 μ1 i1 f hR;dsimp only[aU,aY];have v:=v.mono f;have aa:=aa.mono f;have ag:=ag.mono f;have af:=af.mono f;have j:=j.mono f;have o:=o.mono f;have hm:=hm.mono f;refine D9 ?_)
  all_goals refine D8 ?_
  all_goals try repeat' (refine KZ ?_)
  refine aZ 7 _ (by kernel_rfl) rfl (aD (aD aT)) ?_;all_goals(refine DD 0 ?_;refine D1 1 ?_;refine DD 2 ?_;refine D2 3 rfl (by exact U1 1) ?_;refine D2 4 rfl (by exact U4 aa) ?_;refine DD 5 ?_)
  all_goals(refine D3 6 ?_;refine D5 ?_;refine CF 71 ?_;refine jP 2 rfl rfl rfl EN rfl hR (ai xb mb _ _ p _ _ af j (hB.mono (by omega)) ao hm) ?_;intro v1 μ1 i1 f hR;dsimp only[aU,aY];have v:=v.mono f;have aa:=aa.mono f;have ag:=ag.mono f;have af:=af.mono f;have j:=j.mono f;have o:=o.mono f;have hm:=hm.mono f;refine D9 ?_)
  all_goals refine D8 ?_
  all_goals try repeat' (refine KZ ?_)
  all_goals exact gY 2 i1 (by exact .inl rfl) au rfl rfl ab hR
 rw[if_neg bd]at ab;dsimp only at ab;have h1:=hq.here.1.one (by omega);have cc:=aGr h1;have ax:SB (eX s) (szs t.kids):=by have:=(tZ (F:=FF) s).wt;unfold SB at hS⊢;omega
 try repeat' (first|((with_reducible show GC _ _ (Code.seq (Code.region 9 _ _) _) _ _ _ _);(apply dX))|refine KZ ?_|refine NB fun b=>?_)
 rename_i bn;obtain⟨bp,bu⟩:∃y,y=b:=⟨_,rfl⟩;rw[←bu];clear bu;refine gcs ?_;have z:∀n,n<t.size→PB (iE p s) n:=fun n hn=>⟨by show 0< (p.regs++_).length;simp,by show(p.regs++_).length+n≤90000;rw[aI,cN];omega,by show p.labels.length+n≤90000;omega,hB.loops⟩;have az:∀n,n<t.size→PB { iE p s with loops:=(iE p s).loops++mine } n:=fun n hn=>⟨(z n hn).ne,(z n hn).regs,(z n hn).labels,by show(p.loops++mine).length+p.mine.length≤p.labels.length;rw[aI];exact bs⟩;try repeat' (first|((with_reducible show GC _ _ (Code.seq (Code.seq (Code.region 10 _ _) _) _) _ _ _ _);(apply dX))|refine KO ?_|(refine CF 100 ?_;refine ZA 2 rfl rfl rfl EN rfl hR (wO xb mb p _ s _ j (by omega) a6) ?_;intro v1 μ1 i1 f hR b5;dsimp only[aU,aY];obtain⟨r2,lb2,lo2,mi2,rfl,av,an,al,ak⟩:=b5;have q1:=av.one;have q2:=an.one;have q3:=al.one;have q4:=ak.one)|refine KZ ?_)
 generalize iE p s=q at ab av an al ak z az⊢;refine gcs ?_;have ba:((t.kids.length:Int)-1)=((t.kids.length-1:Nat):Int):=by omega
 have b6:=o.mono f;have aa:=hm.mono f;have b8:(t.kids.take (t.kids.length-1)).length=t.kids.length-1:=by rw[cM];omega
 try repeat' (first|refine KO ?_|(refine KV (b:=by((with_reducible apply LA (t.kids.length-1));(iterate 4 exact rfl);exact ba;omega)) (c:=?_))|refine KZ ?_)
 refine cD (ι:=Nat×Mem×List FR) (fun y=>y.1≤t.kids.length-1∧MLe μ1 y.2.1∧ER y.2.1 y.2.2 (((t.kids.take (t.kids.length-1)).take y.1).foldl (fun s k=>N k { q with each:=decide (t.op≠10) } s) (eX s))) (fun y=>t.kids.length-1-y.1) (fun y=>y.2.1) (fun y=>[(60,.int .i64 (y.1:Int)),(59,.int .i64 ((t.kids.length-1:Nat):Int)),(58,.slice A (t.kids.length-1) c),(8,.int .i64 ((t.kids.length:Int)-1)),(6,.pointer (some ⟨bp,0,none⟩)),(5,.pointer (some ⟨bn,0,none⟩)),(3,.slice Am mine.length cm),(0,.pointer (some ⟨xb,0,none⟩))]) (fun y=>.inl ⟨bp,101,12,idx 0 (nL q r2 lb2 lo2 mi2)⟩::.inl ⟨bn,24,6,idx 0 (cO t (.slice A t.kids.length c))⟩::EB xb mb (((t.kids.take (t.kids.length-1)).take y.1).foldl (fun s k=>N k { q with each:=decide (t.op≠10) } s) (eX s)) y.2.2) (0,μ1,i1) ⟨aN _,MLe.refl _,hR⟩ (fun a w hs=>hs.sel (by((repeat first|exact gC|refine eS rfl ?_);done)) (fA (.cells PU) (gB _))) ?_;clear hR;rintro⟨i,μ0,fs0⟩ ⟨hi,h,hR⟩;dsimp only at hi h hR⊢;have aj:∀k∈t.kids.take (t.kids.length-1),dJ qE k∧k.size<t.size:=fun k hk=>⟨hq.kid (bE hk),by have:=hle (bE hk);omega⟩;have ay:∀n,Gr FF (2*szs ((t.kids.take (t.kids.length-1)).take n)) (eX s) (((t.kids.take (t.kids.length-1)).take n).foldl (fun s k=>N k { q with each:=decide (t.op≠10) } s) (eX s)):=fun n=>by have h9:=pF (F:=FF) (g:=(fun s k=>N k { q with each:=decide (t.op≠10) } s)) (c:=fun k=>2*T.size k) ((t.kids.take (t.kids.length-1)).take n) (eX s) (fun k hk s=>(hN k (aj k (bE hk)).1 (aj k (bE hk)).2).2 _ _);rwa[rB]at h9
 have ae:=f.trans h;by_cases hlt:i<t.kids.length-1
 ·obtain⟨k,aw⟩:∃k,t.kids[i]? =some k:=⟨_,aA (by omega)⟩;have bb:(t.kids.take (t.kids.length-1))[i]? =some k:=by rw[List.getElem?_take_of_lt hlt];exact aw
  obtain⟨ad,x,rfl,v,b0,b3⟩:=ah i k aw;have a8:=v.mono ae;obtain⟨ha,aq⟩:=aj k (aB bb);obtain⟨ai,-⟩:=hN k ha aq;have hz:=kK bb;have ao:=SB.gr (n:=szs ((t.kids.take (t.kids.length-1)).take i)) (m:=k.size) (ax.mono (by omega)) (ay i);have ap:(fun s k=>N k { q with each:=decide (t.op≠10) } s) (((t.kids.take (t.kids.length-1)).take i).foldl (fun s k=>N k { q with each:=decide (t.op≠10) } s) (eX s)) k=(((t.kids.take (t.kids.length-1)).take (i+1)).foldl (fun s k=>N k { q with each:=decide (t.op≠10) } s) (eX s)):=(uI (fun s k=>N k { q with each:=decide (t.op≠10) } s) (t.kids.take (t.kids.length-1)) (eX s) bb).symm;dsimp only at ap;try repeat' (first|refine KO ?_|(refine CF 71 ?_;refine jP 4 rfl rfl rfl EN rfl hR (ai xb mb _ _ { q with each:=decide (t.op≠10) } _ _ (b3.mono ae) ⟨_,_,_,_,rfl,av.mono h,an.mono h,al.mono h,ak.mono h⟩ ⟨(z _ aq).ne,(z _ aq).regs,(z _ aq).labels,(z _ aq).loops⟩ ao (hm.mono ae)) ?_;(intro v1 μ1 i1 f hR);(dsimp only[aU,aY]))|(refine KV (b:=by first|exact U1 i|exact U4 a8) (c:=?_))|refine KZ ?_|refine NB fun b=>?_)
  rw[ap]at hR⊢;exact cY (i+1,μ1,i1) ⟨by dsimp only;omega,h.trans f,hR⟩ (by dsimp only;omega) rfl PU (tB (.refl _) (tB (.refl _) (bY _ (bY _ (gB _)))))
 ·have cd:i=t.kids.length-1:=by omega
  have ar:=ay i;have bx:(t.kids.take (t.kids.length-1)).take i=t.kids.take (t.kids.length-1):=aK (by omega);rw[bx]at hR ar⊢;generalize (t.kids.take (t.kids.length-1)).foldl (fun s k=>N k { q with each:=decide (t.op≠10) } s) (eX s)=S5 at hR ab ar⊢;have bh:=SB.gr (n:=szs (t.kids.take (t.kids.length-1))) (m:=(cJ t (t.kids.length-1)).size) (ax.mono (by omega)) ar;obtain⟨ad,x,rfl,b2,b0,bt⟩:=ah (t.kids.length-1) _ (iV (by omega));have a8:=b2.mono ae;have aw:=bt.mono ae;have bq:=o.mono ae;have b1:=hm.mono ae;obtain⟨ai,-⟩:=hN _ (hq.kid (eQ (t:=t) (i:=t.kids.length-1) (by omega))) (by omega);try repeat' (refine KZ ?_)
  refine aZ 9 _ (by kernel_rfl) rfl (aD (aD aT)) ?_;all_goals(refine DD 0 ?_;refine D1 1 ?_;refine DD 2 ?_;refine DD 3 ?_;refine D2 4 rfl (by exact U1 (t.kids.length-1)) ?_;refine D2 5 rfl (by exact U4 a8) ?_;refine DD 6 ?_;refine DD 7 ?_)
  all_goals(refine D3 8 ?_;refine D5 ?_;refine CF 141 ?_;refine jP 2 rfl rfl rfl EN rfl hR (AM N (cJ t (t.kids.length-1)) ai _ _ _ q mine _ _ xb mb aw ⟨_,_,_,_,rfl,av.mono h,an.mono h,al.mono h,ak.mono h⟩ bq (az _ (by omega)) bh b1) ?_;intro v1 μ1 i1 f hR;dsimp only[aU,aY];refine D9 ?_)
  all_goals refine D8 ?_
  all_goals exact gY 2 i1 (by exact .inr rfl) au rfl rfl ab hR
end
section
open Go.RowKit Go.Vcg Ou
def aSv(p:EP):Bool:= !p.fn||p.head
def aSu(p:EP):Bool:= !p.gen||p.head
def aSw(t:T)(p:EP):Bool:=p.strict&&decide (t.s= "delete".toUTF8)&&decide ((cJ t 0).op=34)
theorem aAm:("delete".toUTF8:ByteArray)=⟨#[100,101,108,101,116,101]⟩:=by decide+kernel
attribute [local irreducible] wdL anI nW mkD G GC GQ GA eV Calls IntKind.wrap Int.decLt Int.decLe
theorem aCd(N:T→EP→ES→ES)(t:T)(hq:dJ qE t)(au:t.size≤80000)(ar:∀k,dJ qE k→k.size<t.size→NCk N k∧NG N k)
 (xb mb:Nat)(u pv:Value)(p:EP)(s:ES)(μ:Mem)(hk:KR μ t.kids u)(hp:PV μ p pv)(hB:PB p t.size)(hS:SB s t.size)(hm:vN μ):
 CEs 109 [.pointer (some ⟨xb,0,none⟩),.agg (cO t u).toArray,pv] xb mb s (zL wdF N t p s) μ:=by
 intro w fs hμ g hO;have j:=dW hO.diff;have f:=hp;obtain⟨r,lb,lo,mi,rfl,an,ag,af,ae⟩:=hp;have o1:=an.one;have o2:=ag.one;have o3:=af.one;have o4:=ae.one;have ou:=hk.one;have ax:=hB.labels;have ay:=hB.loops;have ab:=hq.here.2;have av:=aS t;have ao:=iG t.kids;have hlen:t.kids.length≤100000:=by omega
 have hN:∀k∈t.kids,NCk N k∧NG N k:=fun k hk=>ar k (hq.kid hk) (by
  have:k.size≤szs t.kids:=T.eL (List.mem_map.2 ⟨k,hk,rfl⟩);omega)
 have q:∀k∈t.kids,PB p k.size:=fun k hk=>hB.mono (by
  have:k.size≤szs t.kids:=T.eL (List.mem_map.2 ⟨k,hk,rfl⟩);omega)
 have o:∀s1,Gr FF 0 s s1→SB s1 (szs t.kids):=fun s1 hg=>SB.gr (n:=0) (m:=szs t.kids) (hS.mono (by omega)) hg;generalize e:zL wdF N t p s=s';unfold zL at e;by_cases y:t.op=15∨t.op=16
 ·rw[if_pos y]at e;have l:=o _ (aD6 (wd:=wdF) t p s);refine cI Tryz.func109 rfl Tryz.ntmps109 (by simp) hμ hO ?_;rcases y with y|y
  all_goals try repeat' (first|refine KO ?_|(refine CF 144 ?_;refine jP 2 rfl rfl rfl EN rfl g (aCi t ab _ _ p s _ xb mb ou f (by omega) (by omega) hm) ?_;intro v1 μ1 i1 a g;dsimp only[aU,aY];have hk:=hk.mono a;have f:=f.mono a;have hm:=hm.mono a)|(refine CF 48 ?_;refine jP 2 rfl rfl rfl EN rfl g (lK N t.kids _ _ p _ _ xb mb hN hk f q l hlen hm) ?_;intro v1 μ1 i1 a g;dsimp only[aU,aY])|refine KZ ?_|refine NB fun b=>?_)
  all_goals exact gY 2 i1 (by exact .inr rfl) j rfl rfl e g
 rw[if_neg y]at e;by_cases al:t.op=17
 ·rw[if_pos al]at e;have l:=o _ (mC (aSv p) t.at' 33 s);refine cI Tryz.func109 rfl Tryz.ntmps109 (by simp) hμ hO ?_;try repeat' (first|refine KO ?_|(refine CF 106 ?_;refine jP 2 rfl rfl rfl EN rfl g (OU xb mb t _ ou _ (aSv p) (by unfold aSv;simp_all) _ _ _) ?_;intro v1 μ1 i1 a g;dsimp only[aU,aY];have hk:=hk.mono a;have f:=f.mono a;have hm:=hm.mono a)|(refine CF 48 ?_;refine jP 2 rfl rfl rfl EN rfl g (lK N t.kids _ _ p _ _ xb mb hN hk f q l hlen hm) ?_;intro v1 μ1 i1 a g;dsimp only[aU,aY])|refine KZ ?_|refine NB fun b=>?_|(refine KB ?_ ?_<;>intro hp))
  all_goals exact gY 2 i1 (by exact .inr rfl) j rfl rfl e g
 rw[if_neg al]at e;by_cases ak:t.op=34
 ·rw[if_pos ak]at e;have l:=o _ (rG wdF t t.s p s);refine cI Tryz.func109 rfl Tryz.ntmps109 (by simp) hμ hO ?_;try repeat' (first|refine KO ?_|(refine CF 105 ?_;refine jP 2 rfl rfl rfl EN rfl g (sK xb mb t _ ou _ (by omega) p _ _ _ f hm) ?_;intro v1 μ1 i1 a g;dsimp only[aU,aY];have hk:=hk.mono a;have f:=f.mono a;have hm:=hm.mono a)|(refine CF 48 ?_;refine jP 2 rfl rfl rfl EN rfl g (lK N t.kids _ _ p _ _ xb mb hN hk f q l hlen hm) ?_;intro v1 μ1 i1 a g;dsimp only[aU,aY])|refine KZ ?_|refine NB fun b=>?_)
  all_goals exact gY 2 i1 (by exact .inr rfl) j rfl rfl e g
 rw[if_neg ak]at e;by_cases x:t.op=39∧t.n=3
 ·rw[if_pos x]at e;have h1:=hq.here.1.one (by omega);obtain⟨A,c,rfl,hcap,v⟩:=hk.form;obtain⟨ad,x0,rfl,z,aa,aq⟩:=v 0 _ (iV (by omega));have aw:=(hq.kid (eQ (t:=t) (i:=0) (by omega))).here.2;obtain⟨x,h3⟩:=x;refine cI Tryz.func109 rfl Tryz.ntmps109 (by simp) hμ hO ?_;try repeat' (first|refine KZ ?_|refine NB fun b=>?_)
  refine aZ 12 _ (by kernel_rfl) rfl (aD (aD aT)) ?_;all_goals(refine DD 0 ?_;refine D1 1 ?_;refine DD 2 ?_;refine D2 3 rfl (by exact U1 0) ?_;refine D2 4 rfl (by exact U4 z) ?_;refine D1 5 ?_;refine DD 6 ?_;refine D2 7 rfl (by exact U1 0) ?_;refine DD 8 ?_;refine D2 9 rfl (by exact U4 z) ?_;refine DD 10 ?_)
  all_goals(refine D3 11 ?_;refine D5 ?_;refine CF 105 ?_;refine jP 2 rfl rfl rfl EN rfl g (sK xb mb (cJ t 0) _ aa _ (by omega) p _ _ _ f hm) ?_;intro v1 μ1 i1 a g;dsimp only[aU,aY];refine D9 ?_)
  all_goals refine D8 ?_
  all_goals try repeat' (refine KZ ?_)
  all_goals exact gY 2 i1 (by exact .inl rfl) j rfl rfl e g
 rw[if_neg x]at e;by_cases ah:t.op=54
 ·rw[if_pos ah]at e;have l:=o _ (mC (aSu p) t.at' 34 s);refine cI Tryz.func109 rfl Tryz.ntmps109 (by simp) hμ hO ?_;try repeat' (first|refine KO ?_|(refine CF 106 ?_;refine jP 2 rfl rfl rfl EN rfl g (OU xb mb t _ ou _ (aSu p) (by unfold aSu;simp_all) _ _ _) ?_;intro v1 μ1 i1 a g;dsimp only[aU,aY];have hk:=hk.mono a;have f:=f.mono a;have hm:=hm.mono a)|(refine CF 48 ?_;refine jP 2 rfl rfl rfl EN rfl g (lK N t.kids _ _ p _ _ xb mb hN hk f q l hlen hm) ?_;intro v1 μ1 i1 a g;dsimp only[aU,aY])|refine KZ ?_|refine NB fun b=>?_|(refine KB ?_ ?_<;>intro hp))
  all_goals exact gY 2 i1 (by exact .inr rfl) j rfl rfl e g
 rw[if_neg ah]at e;by_cases ai:t.op=42
 ·rw[if_pos ai]at e;have h1:=hq.here.1.one (by omega);have ap:=hk;obtain⟨A,c,rfl,hcap,v⟩:=ap.form;obtain⟨ad,x0,rfl,z,aa,aq⟩:=v 0 _ (iV (by omega));have l:=o _ (mC (aSw t p) t.at' 35 s);refine cI Tryz.func109 rfl Tryz.ntmps109 (by simp) hμ hO ?_;try repeat' (first|refine KZ ?_|refine NB fun b=>?_)
  refine aZ 19 _ (by kernel_rfl) rfl (aD (aD aT)) ?_;all_goals(refine DD 0 ?_;refine DD 1 ?_;refine D1 2 ?_;refine D1 3 ?_;refine DD 4 ?_;refine DD 5 ?_)
  all_goals(try(refine D7 6 ?_;(repeat' (refine KB ?_ ?_<;>intro hp))))
  all_goals(refine D1 6 ?_;(first|refine D1 7 ?_|refine DD 7 ?_);refine D1 8 ?_;refine DD 9 ?_;refine DD 10 ?_)
  all_goals(try(refine D7 11 ?_;(repeat' (refine KB ?_ ?_<;>intro hp))))
  all_goals(refine D1 11 ?_;(first|refine D1 12 ?_|refine DD 12 ?_);(first|refine D1 13 ?_|(refine D2 13 rfl (by exact U1 0) ?_));(first|refine D1 14 ?_|refine DD 14 ?_);(first|refine D1 15 ?_|(refine D2 15 rfl (by exact U4 z) ?_));refine D1 16 ?_;refine DD 17 ?_)
  all_goals(refine D3 18 ?_;refine D5 ?_;refine CF 106 ?_;refine jP 2 rfl rfl rfl EN rfl g (OU xb mb t _ ou _ (aSw t p) (by unfold aSw;rw[aAm];simp_all) _ _ _) ?_;intro v1 μ1 i1 a g;dsimp only[aU,aY];have hk:=hk.mono a;have f:=f.mono a;have hm:=hm.mono a;refine D9 ?_)
  all_goals refine D8 ?_
  all_goals try repeat' (first|refine KO ?_|(refine CF 48 ?_;refine jP 2 rfl rfl rfl EN rfl g (lK N t.kids _ _ p _ _ xb mb hN hk f q l hlen hm) ?_;intro v1 μ1 i1 a g;dsimp only[aU,aY])|refine KZ ?_)
  all_goals exact gY 2 i1 (by exact .inr rfl) j rfl rfl e g
 rw[if_neg ai]at e;have l:=o _ (Gr.refl s);refine cI Tryz.func109 rfl Tryz.ntmps109 (by simp) hμ hO ?_;by_cases aj:t.op=39
 ·have h3:¬t.n=3:=fun h=>x ⟨aj,h⟩;try repeat' (first|refine KO ?_|(refine CF 48 ?_;refine jP 2 rfl rfl rfl EN rfl g (lK N t.kids _ _ p _ _ xb mb hN hk f q l hlen hm) ?_;intro v1 μ1 i1 a g;dsimp only[aU,aY])|refine KZ ?_|refine NB fun b=>?_)
  all_goals exact gY 2 i1 (by exact .inr rfl) j rfl rfl e g
 ·try repeat' (first|refine KO ?_|(refine CF 48 ?_;refine jP 2 rfl rfl rfl EN rfl g (lK N t.kids _ _ p _ _ xb mb hN hk f q l hlen hm) ?_;intro v1 μ1 i1 a g;dsimp only[aU,aY])|refine KZ ?_|refine NB fun b=>?_)
  all_goals exact gY 2 i1 (by exact .inr rfl) j rfl rfl e g
end
end Go.Proofs.YtlllalmkkaolfaaGreatDoor
