/- Package early: node, walked. -/
import Derived.Test.YtlllalmkkaolfaaGreatDoorUak
set_option maxRecDepth 20000
set_option maxHeartbeats 2000000
namespace Go.Proofs.YtlllalmkkaolfaaGreatDoor
section
open Go.RowKit Go.Vcg Ou
attribute [local irreducible] wdL anI nW mkD G GC GQ GA eV Calls IntKind.wrap Int.decLt Int.decLe
theorem PV.form{μ:Mem}{p:EP}{v:Value}(h:PV μ p v):∃Ar cr Al cl Ao co Am cm,v=.agg (nL p (.slice Ar p.regs.length cr) (.slice Al p.labels.length cl) (.slice Ao p.loops.length co) (.slice Am p.mine.length cm)).toArray∧IsV μ (.slice Ar p.regs.length cr) p.regs∧SsV μ (.slice Al p.labels.length cl) p.labels∧SsV μ (.slice Ao p.loops.length co) p.loops∧SsV μ (.slice Am p.mine.length cm) p.mine:=by
 obtain⟨r,lb,lo,mi,rfl,h1,h2,h3,h4⟩:=h;have e1:=h1;have e2:=h2;have e3:=h3;have e4:=h4;obtain⟨Ar,cr,rfl,-,-⟩:=e1;obtain⟨Al,cl,rfl,-,-⟩:=e2;obtain⟨Ao,co,rfl,-,-⟩:=e3;obtain⟨Am,cm,rfl,-,-⟩:=e4;exact⟨_,_,_,_,_,_,_,_,rfl,h1,h2,h3,h4⟩
theorem aCe(N:T→EP→ES→ES)(B:T→EP→ED→ES→ES)(t:T)(hq:dJ qE t)(bq:t.size≤80000)(a8:∀k,dJ qE k→k.size<t.size→NCk N k∧NG N k)(b8:∀k,dJ qE k→k.size<t.size→BCk B k∧BG B k):NCk (CQ wdF N B) t:=by
 intro xb mb u pv p s μ hk hp hB hS hm;intro w fs hμ l hO;have v:=dW hO.diff;have dp:=hp;obtain⟨Ar,cr,Al,cl,Ao,co,Am,cm,rfl,bu,bd,a6,ar⟩:=hp.form;have ou:=hk.one;have dn:=hB.regs;have dt:=hB.labels;have dq:=hB.loops;have hne:=hB.ne;have dh:=hq.here.2;have br:=aS t;have c4:=iG t.kids;have hlen:t.kids.length≤100000:=by omega
 have ak:∀k∈t.kids,k.size<t.size:=fun k hk=>by have:k.size≤szs t.kids:=T.eL (List.mem_map.2 ⟨k,hk,rfl⟩);omega
 have hN:∀k∈t.kids,NCk N k∧NG N k:=fun k hk=>a8 k (hq.kid hk) (ak k hk);have bb:s.regs≤1000000:=by unfold SB at hS;omega
 have a1:SB (eX s) (szs t.kids):=by have:=(tZ (F:=FF) s).wt;unfold SB at hS⊢;omega
 obtain⟨A,c,rfl,hcap,ay⟩:=hk.form;generalize j:CQ wdF N B t p s=s';unfold CQ at j;dsimp only at j;refine cI Tryz.func71 rfl Tryz.ntmps71 (by simp) hμ hO ?_;refine lT (aE1 xb mb s fs) ?_;by_cases he:s.e=0
 rotate_left
 ·rw[if_pos he]at j;try repeat' (first|refine KZ ?_|refine NB fun b=>?_)
  all_goals exact gY 2 fs (by exact .inl rfl) v rfl rfl j l
 rw[if_neg (fun h=>h he)]at j;try repeat' (first|refine KZ ?_|refine NB fun b=>?_)
 rename_i bn;obtain⟨bp,ck⟩:∃y,y=b:=⟨_,rfl⟩;rw[←ck];clear ck;refine aZ 9 _ (by kernel_rfl) rfl (aD (aD aT)) ?_;all_goals(refine DD 0 ?_;refine DD 1 ?_;refine DD 2 ?_;refine DD 3 ?_;refine DD 4 ?_;refine DD 5 ?_;refine DD 6 ?_;refine DD 7 ?_;refine DD 8 ?_;refine D8 ?_)
 try repeat' (first|((with_reducible show GC _ _ (Code.seq (Code.region 4 _ _) _) _ _ _ _);(apply dX))|refine KZ ?_)
 refine gcs (aB4 (l' :=[(0,.pointer (some ⟨xb,0,none⟩)),(4,.pointer (some ⟨bn,0,none⟩)),(5,.pointer (some ⟨bp,0,none⟩)),(6,(.slice Am p.mine.length cm)),(7,.bool p.own),(8,.bool p.each)]) (L' :=.inl ⟨bp,101,12,idx 0 (nL (rW p) (.slice Ar p.regs.length cr) (.slice Al p.labels.length cl) (.slice Ao p.loops.length co) (.slice none 0 0))⟩::.inl ⟨bn,24,6,idx 0 (cO t (.slice A t.kids.length c))⟩::EB xb mb s fs) PU (fA (.cells PU) (gB _)) ?_);have o:PV μ (rW p) (.agg (nL (rW p) (.slice Ar p.regs.length cr) (.slice Al p.labels.length cl) (.slice Ao p.loops.length co) (.slice none 0 0)).toArray):=⟨_,_,_,_,rfl,bu,bd,a6,SsV.nil _⟩;have ae:∀n,n≤t.size→PB (rW p) n:=fun n hn=>⟨hne,by show p.regs.length+n≤90000;omega,by show p.labels.length+n≤90000;omega,by show p.loops.length+0≤p.labels.length;omega⟩;have a7:∀s n,n<t.size→PB (iE (rW p) s) n:=fun s n hn=>⟨by show 0< (p.regs++_).length;simp,by show(p.regs++_).length+n≤90000;rw[aI,cN];omega,by show p.labels.length+n≤90000;omega,by show p.loops.length+0≤p.labels.length;omega⟩;have b1:∀x n,n<t.size→PB { rW p with labels:=p.labels++[x],mine:=p.mine++[x] } n:=fun x n hn=>⟨hne,by show p.regs.length+n≤90000;omega,by show(p.labels++[x]).length+n≤90000;rw[aI,cN];omega,by show p.loops.length+ (p.mine++[x]).length≤(p.labels++[x]).length;rw[aI,aI,cN];omega⟩;have cc:(rW p).loops.length+p.mine.length+ (rW p).mine.length≤(rW p).labels.length:=by show p.loops.length+p.mine.length+0≤p.labels.length;omega
 have bs:(rW p).regs.length≤100000:=by show p.regs.length≤_;omega
 have bt:(rW p).labels=p.labels:=rfl;have cb:(rW p).loops=p.loops:=rfl;have cd:(rW p).regs=p.regs:=rfl;have bo:∀s,(iE (rW p) s).regs.length≤100000:=fun s=>by show(p.regs++_).length≤_;rw[aI,cN];omega
 have ba:∀s,0< (iE (rW p) s).regs.length:=fun s=>by show 0< (p.regs++_).length;simp
 generalize rW p=q at j o ae a7 b1 cc bs bt cb cd bo ba⊢;by_cases h2:t.op=2
 ·rw[if_pos h2]at j;try repeat' (first|refine KO ?_|(refine CF 98 ?_;refine jP 2 rfl rfl rfl EN rfl l (aCc N B t hq h2 bq a8 b8 xb mb _ _ q p.each s _ hk o (ae _ (aC _)) hS hm) ?_;intro v1 μ1 i1 f l;dsimp only[aU,aY])|refine KZ ?_)
  all_goals exact gY 2 i1 (by exact .inr rfl) v rfl rfl j l
 rw[if_neg h2]at j;by_cases h4:t.op=4
 ·rw[if_pos h4]at j;try repeat' (first|refine KO ?_|(refine CF 99 ?_;refine jP 2 rfl rfl rfl EN rfl l (aHa N B t hq h4 bq a8 b8 xb mb _ _ q p.own s _ hk o (ae _ (aC _)) hS hm) ?_;intro v1 μ1 i1 f l;dsimp only[aU,aY])|refine KZ ?_)
  all_goals exact gY 2 i1 (by exact .inr rfl) v rfl rfl j l
 rw[if_neg h4]at j;by_cases h6:t.op=6
 ·rw[if_pos h6]at j;try repeat' (refine KZ ?_)
  refine aZ 7 _ (by kernel_rfl) rfl (aD (aD aT)) ?_;all_goals(refine DD 0 ?_;refine DD 1 ?_;refine DD 2 ?_;refine DD 3 ?_;refine DD 4 ?_)
  all_goals(refine D3 5 ?_;refine D5 ?_;(refine CF 100 ?_;refine ZA 2 rfl rfl rfl EN rfl l (wO xb mb q _ s _ o bs bb) ?_;intro v1 μ1 i1 f l bm;dsimp only[aU,aY];have hk:=hk.mono f;have hm:=hm.mono f);refine D9 ?_)
  all_goals(refine D3 6 ?_;refine D5 ?_;(refine CF 48 ?_;refine jP 2 rfl rfl rfl EN rfl l (lK N t.kids _ _ (iE q s) (eX s) _ xb mb hN hk bm (fun y hy=>a7 s _ (ak y hy)) a1 hlen hm) ?_;intro v1 μ1 i1 f l;dsimp only[aU,aY]);refine D9 ?_)
  all_goals refine D8 ?_
  all_goals try repeat' (refine KZ ?_)
  all_goals exact gY 2 i1 (by exact .inr rfl) v rfl rfl j l
 rw[if_neg h6]at j;by_cases b9:t.op=20
 ·rw[if_pos b9]at j;have c7:=hq.here.1.two (by simp[b9]);obtain⟨rr,cv⟩:=yT c7;have hz:=br;rw[cv,bK,bK]at hz a1;have dl:=aS (cJ t 1);obtain⟨ad,x0,rfl,r,bg,z⟩:=ay 0 _ (iV (by omega));obtain⟨ad',x1,e,bj,dj,an⟩:=ay 1 _ (iV (by omega));cases e;have df:=hq.kid (eQ (t:=t) (i:=1) (by omega));have ds:=iG (cJ t 1).kids;obtain⟨de,az⟩:=b8 _ (hq.kid (eQ (t:=t) (i:=0) (by omega))) (by omega);have cp:∀y∈(cJ t 1).kids,(NCk N y∧NG N y)∧y.size<t.size:=fun y hy=>by have:y.size≤szs (cJ t 1).kids:=T.eL (List.mem_map.2 ⟨y,hy,rfl⟩);exact⟨a8 y (df.kid hy) (by omega),by omega⟩
  try repeat' (first|((with_reducible show GC _ _ (Code.seq (Code.region 14 _ _) _) _ _ _ _);(apply dX))|refine KO ?_|(refine CF 100 ?_;refine ZA 2 rfl rfl rfl EN rfl l (wO xb mb q _ s _ o bs bb) ?_;intro v1 μ1 i1 f l bm;dsimp only[aU,aY];obtain⟨r2,lb2,lo2,mi2,rfl,aq,al,aj,ai⟩:=bm;have q1:=aq.one;have q2:=al.one;have q3:=aj.one;have q4:=ai.one;have bc:=aq;obtain⟨A2,c2,rfl,-,-⟩:=bc)|refine KZ ?_)
  have av:=a7 s;have bo:=bo s;have ba:=ba s;generalize iE q s=q2 at j aq al aj ai av bo ba⊢;refine gcs ?_;have bf:PV μ1 q2 (.agg (nL q2 (.slice A2 q2.regs.length c2) lb2 lo2 mi2).toArray):=⟨_,_,_,_,rfl,aq,al,aj,ai⟩;obtain⟨nv,cg,b3⟩:=HQ μ1 q2 _ bf ba (by omega);have cf:=cg;obtain⟨An,cn,rfl,-,-⟩:=cf;have cy:(mB q2).length≤100000:=by unfold mB;rw[dA];omega
  have r:=r.mono f;have z:=z.mono f;have bj:=bj.mono f;have an:=an.mono f;have hm:=hm.mono f;have ca:=SB.gr (n:=(cJ t 0).size) (m:=szs (cJ t 1).kids) (a1.mono (by omega)) (az q2 ⟨true,mB q2,0,false⟩ (eX s));try repeat' (refine KZ ?_)
  refine aZ 10 _ (by kernel_rfl) rfl (aD (aD aT)) ?_;all_goals(refine DD 0 ?_;refine D1 1 ?_;refine DD 2 ?_;refine D2 3 rfl (by exact U1 0) ?_;refine D2 4 rfl (by exact U4 r) ?_;refine DD 5 ?_;refine DD 6 ?_;refine D3 7 ?_;refine D5 ?_;refine K2 102 b3 ?_;refine D9 ?_;refine DD 8 ?_)
  all_goals(refine D3 9 ?_;refine D5 ?_;(refine CF 101 ?_;refine jP 2 rfl rfl rfl EN rfl l (de xb mb _ _ _ q2 ⟨true,mB q2,0,false⟩ _ _ z bf cg cy (av _ (by omega)) (a1.mono (by omega)) hm) ?_;intro v1 μ1 i1 f l;dsimp only[aU,aY];have bj:=bj.mono f;have an:=an.mono f;have bf:=bf.mono f;have hm:=hm.mono f);refine D9 ?_)
  all_goals refine D8 ?_
  all_goals try repeat' (refine KZ ?_)
  all_goals
   refine aZ 8 _ (by kernel_rfl) rfl (aD (aD aT)) ?_;all_goals(refine DD 0 ?_;refine D1 1 ?_;refine DD 2 ?_;refine D2 3 rfl (by exact U1 1) ?_;refine DD 4 ?_;refine D2 5 rfl (by exact U4 bj) ?_;refine DD 6 ?_)
   all_goals(refine D3 7 ?_;refine D5 ?_;refine CF 48 ?_;refine jP 2 rfl rfl rfl EN rfl l (lK N (cJ t 1).kids _ _ q2 _ _ xb mb (fun y hy=>(cp y hy).1) an bf (fun y hy=>av _ (cp y hy).2) ca (by omega) hm) ?_;intro v1 μ1 i1 f l;dsimp only[aU,aY];refine D9 ?_)
   all_goals refine D8 ?_
  all_goals try repeat' (refine KZ ?_)
  all_goals exact gY 2 i1 (by exact .inr rfl) v rfl rfl j l
 rw[if_neg b9]at j;by_cases bx:t.op=10∨t.op=11∨t.op=12∨t.op=13∨t.op=14
 ·rw[if_pos bx]at j;have ct:=bx;rcases ct with h|h|h|h|h
  all_goals try repeat' (first|refine KO ?_|(refine CF 103 ?_;refine jP 2 rfl rfl rfl EN rfl l (aCh N t hq bx bq a8 xb mb _ _ _ q p.mine s _ hk o ar (ae _ (aC _)) cc hS hm) ?_;intro v1 μ1 i1 f l;dsimp only[aU,aY])|refine KZ ?_)
  all_goals exact gY 2 i1 (by exact .inr rfl) v rfl rfl j l
 rw[if_neg bx]at j;by_cases cs:t.op=21
 ·rw[if_pos cs]at j;have an:=hq.here.1.one (by omega);have hz:=br;rw[IW an,bK]at hz;obtain⟨ad,x0,rfl,r,bg,z⟩:=ay 0 _ (iV (by omega));obtain⟨bi,az⟩:=hN _ (eQ (t:=t) (i:=0) (by omega));have au:∀y∈t.kids.drop 1,y∈t.kids:=fun y hy=>cU hy;have ao:=hk.DA (by omega);have ch:=iG (t.kids.drop 1);have db:=(az q s).trans (tZ (F:=FF) (N (cJ t 0) q s)) (aC _);have ah:SB (eX (N (cJ t 0) q s)) (szs (t.kids.drop 1)):=by have:=db.wt;unfold SB at hS⊢;omega
  have b2:(N (cJ t 0) q s).regs≤1000000:=by have:=(az q s).wt;unfold SB at hS;omega
  try repeat' (refine KZ ?_)
  refine aZ 7 _ (by kernel_rfl) rfl (aD (aD aT)) ?_;all_goals(refine DD 0 ?_;refine D1 1 ?_;refine DD 2 ?_;refine D2 3 rfl (by exact U1 0) ?_;refine D2 4 rfl (by exact U4 r) ?_;refine DD 5 ?_)
  all_goals(refine D3 6 ?_;refine D5 ?_;refine CF 71 ?_;refine jP 2 rfl rfl rfl EN rfl l (bi xb mb _ _ q s _ z o (ae _ (by omega)) (hS.mono (by omega)) hm) ?_;intro v1 μ1 i1 f l;dsimp only[aU,aY];have ao:=ao.mono f;have o:=o.mono f;have hm:=hm.mono f;refine D9 ?_)
  all_goals refine D8 ?_
  all_goals try repeat' (first|((with_reducible show GC _ _ (Code.seq (Code.region 25 _ _) _) _ _ _ _);(apply dX))|refine KO ?_|(refine CF 100 ?_;refine ZA 2 rfl rfl rfl EN rfl l (wO xb mb q _ (N (cJ t 0) q s) _ o bs b2) ?_;intro v1 μ1 i1 f l bm;dsimp only[aU,aY];have ao:=ao.mono f;have hm:=hm.mono f;obtain⟨r2,lb2,lo2,mi2,rfl,aq,al,aj,ai⟩:=bm;have q1:=aq.one;have q2:=al.one;have q3:=aj.one;have q4:=ai.one;have bc:=aq;obtain⟨A2,c2,rfl,-,-⟩:=bc)|refine KZ ?_)
  have av:=a7 (N (cJ t 0) q s);generalize iE q (N (cJ t 0) q s)=q2 at j aq al aj ai av⊢;refine gcs ?_;try repeat' (refine KZ ?_)
  refine aZ 6 _ (by kernel_rfl) rfl (aD (aD aT)) ?_;all_goals(refine DD 0 ?_;refine D1 1 ?_;refine DD 2 ?_;refine D2 3 rfl (by((with_reducible apply lL 1);(iterate 4 exact rfl);omega;omega)) ?_;refine DD 4 ?_)
  all_goals(refine D3 5 ?_;refine D5 ?_;refine CF 48 ?_;refine jP 2 rfl rfl rfl EN rfl l (lK N (t.kids.drop 1) _ _ { q2 with choice:=true } _ _ xb mb (fun y hy=>hN y (au y hy)) ao ⟨_,_,_,_,rfl,aq,al,aj,ai⟩ (fun y hy=>⟨(av _ (ak y (au y hy))).ne,(av _ (ak y (au y hy))).regs,(av _ (ak y (au y hy))).labels,(av _ (ak y (au y hy))).loops⟩) ah (by omega) hm) ?_;intro v1 μ1 i1 f l;dsimp only[aU,aY];refine D9 ?_)
  all_goals refine D8 ?_
  all_goals try repeat' (refine KZ ?_)
  all_goals exact gY 2 i1 (by exact .inr rfl) v rfl rfl j l
 rw[if_neg cs]at j;by_cases h9:t.op=9
 ·rw[if_pos h9]at j;have an:=hq.here.1.one (by omega);have hz:=br;rw[IW an,bK]at hz;obtain⟨ad,x0,rfl,r,bg,z⟩:=ay 0 _ (iV (by omega));obtain⟨bi,az⟩:=hN _ (eQ (t:=t) (i:=0) (by omega));have au:∀y∈t.kids.drop 1,y∈t.kids:=fun y hy=>cU hy;have ao:=hk.DA (by omega);have ch:=iG (t.kids.drop 1);have dc:(t.kids.drop 1).length=t.kids.length-1:=dA;have c6:(t.kids.drop 1).length≤100000:=by omega
  have ah:=SB.gr (s' :=N (cJ t 0) q s) (n:=(cJ t 0).size) (m:=szs (t.kids.drop 1)) (hS.mono (by omega)) (az q s);try repeat' (refine KZ ?_)
  refine aZ 7 _ (by kernel_rfl) rfl (aD (aD aT)) ?_;all_goals(refine DD 0 ?_;refine D1 1 ?_;refine DD 2 ?_;refine D2 3 rfl (by exact U1 0) ?_;refine D2 4 rfl (by exact U4 r) ?_;refine DD 5 ?_)
  all_goals(refine D3 6 ?_;refine D5 ?_;refine CF 71 ?_;refine jP 2 rfl rfl rfl EN rfl l (bi xb mb _ _ q s _ z o (ae _ (by omega)) (hS.mono (by omega)) hm) ?_;intro v1 μ1 i1 f l;dsimp only[aU,aY];have ao:=ao.mono f;have o:=o.mono f;have hm:=hm.mono f;refine D9 ?_)
  all_goals refine D8 ?_
  all_goals try repeat' (first|refine KO ?_|(refine KV (b:=by((with_reducible apply lL 1);(iterate 4 exact rfl);omega;omega)) (c:=?_))|refine KZ ?_)
  rw[←dc]at ao⊢;obtain⟨A3,c3,e3,dd,bk⟩:=ao.form;rw[e3];generalize dm:N (cJ t 0) q s=s0 at l j ah⊢;generalize dr:t.kids.drop 1=l3 at j au ch c6 ah bk⊢;refine cD (ι:=Nat×Mem×List FR) (fun y=>y.1≤l3.length∧MLe μ1 y.2.1∧ER y.2.1 y.2.2 ((l3.take y.1).foldl (fun s k=>lN N k q s) s0)) (fun y=>l3.length-y.1) (fun y=>y.2.1) (fun y=>[(121,.int .i64 (y.1:Int)),(120,.int .i64 (l3.length:Int)),(119,.slice A3 l3.length c3),(5,.pointer (some ⟨bp,0,none⟩)),(0,.pointer (some ⟨xb,0,none⟩))]) (fun y=>.inl ⟨bp,101,12,idx 0 (nL q (.slice Ar p.regs.length cr) (.slice Al p.labels.length cl) (.slice Ao p.loops.length co) (.slice none 0 0))⟩::EB xb mb ((l3.take y.1).foldl (fun s k=>lN N k q s) s0) y.2.2) (0,μ1,i1) ⟨aN _,MLe.refl _,l⟩ (fun a w hs=>hs.sel PU (fA (.refl _) (bY _ (gB _)))) ?_;clear l;rintro⟨i,μ0,fs0⟩ ⟨hi,ap,l⟩;dsimp only at hi ap l⊢;by_cases hlt:i<l3.length
  ·obtain⟨k,bw⟩:∃k,l3[i]? =some k:=⟨_,aA hlt⟩;obtain⟨ad3,x3,rfl,c1,di,cj⟩:=bk i k bw;have bz:=au k (aB bw);have c0:=c1.mono ap;obtain⟨cz,-⟩:=hN k bz;have dk:=kK bw;have c9:Gr FF (2*szs (l3.take i)) s0 ((l3.take i).foldl (fun s k=>lN N k q s) s0):=by have h9:=pF (F:=FF) (g:=(fun s k=>lN N k q s)) (c:=fun k=>2*T.size k) (l3.take i) s0 (fun k hk s=>AB k (fun p s=>(hN k (au k (bE hk))).2 p s) q s);rwa[rB]at h9
   have cu:=SB.gr (n:=szs (l3.take i)) (m:=k.size) (ah.mono (by omega)) c9;have bh:(fun s k=>lN N k q s) ((l3.take i).foldl (fun s k=>lN N k q s) s0) k=((l3.take (i+1)).foldl (fun s k=>lN N k q s) s0):=(uI (fun s k=>lN N k q s) l3 s0 bw).symm;dsimp only at bh;try repeat' (first|refine KO ?_|(refine CF 104 ?_;refine jP 2 rfl rfl rfl EN rfl l (AO N k cz _ _ q _ _ xb mb (cj.mono ap) (o.mono ap) (ae _ (iO (ak k bz))) cu (hm.mono ap)) ?_;(intro v1 μ1 i1 f l);(dsimp only[aU,aY]))|(refine KV (b:=by first|exact U1 i|exact U4 c0) (c:=?_))|refine KZ ?_|refine NB fun b=>?_)
   rw[bh]at l⊢;exact cY (i+1,μ1,i1) ⟨by dsimp only;omega,ap.trans f,l⟩ (by dsimp only;omega) rfl PU (eB (.refl _) (bY _ (gB _)))
  ·have c8:i=l3.length:=by omega
   subst c8;rw[aK (aC _)]at l⊢;try repeat' (refine KZ ?_)
   all_goals exact gY 1 fs0 (by exact .inr rfl) v rfl rfl j l
 rw[if_neg h9]at j;by_cases cq:t.op=23
 rotate_left
 ·rw[if_neg cq]at j;try repeat' (first|refine KO ?_|(refine CF 109 ?_;refine jP 2 rfl rfl rfl EN rfl l (aCd N t hq bq a8 xb mb _ _ q s _ hk o (ae _ (aC _)) hS hm) ?_;intro v1 μ1 i1 f l;dsimp only[aU,aY])|refine KZ ?_)
  all_goals exact gY 2 i1 (by exact .inr rfl) v rfl rfl j l
 rw[if_pos cq]at j;have an:=hq.here.1.one (by omega);have hz:=br;rw[IW an,bK]at hz;obtain⟨ad,x0,rfl,r,bg,z⟩:=ay 0 _ (iV (by omega));obtain⟨bi,az⟩:=hN _ (eQ (t:=t) (i:=0) (by omega));obtain⟨cl1,b0⟩:∃b,q.labels.contains t.s=b:=⟨_,rfl⟩;rw[b0]at j;have da:=(rG (F:=FF) wdF t t.s q s).trans (mC cl1 t.at' 31 _) (aC _);have ah:=SB.gr (n:=0) (m:=(cJ t 0).size) (hS.mono (by omega)) da;have cw:SsV μ (.slice Al p.labels.length cl) q.labels:=by rw[bt];exact bd
 try repeat' (first|refine KO ?_|(refine CF 105 ?_;refine jP 2 rfl rfl rfl EN rfl l (sK xb mb t _ ou _ (by omega) q _ s _ o hm) ?_;intro v1 μ1 i1 f l;dsimp only[aU,aY];have b6:=cw.mono f;have aw:=f;have r:=r.mono f;have z:=z.mono f;have o:=o.mono f;have ar:=ar.mono f;have hm:=hm.mono f)|refine KZ ?_)
 refine aZ 9 _ (by kernel_rfl) rfl (aD (aD aT)) ?_;all_goals(refine DD 0 ?_;refine DD 1 ?_;refine DD 2 ?_;refine DD 3 ?_;refine DD 4 ?_;refine DD 5 ?_;refine DD 6 ?_;refine D3 7 ?_;refine D5 ?_;refine K2 107 (fun w μc hw ag=>AU t.s q.labels _ b0 _ w μc hw (b6.mono ag) (by rw[bt];omega)) ?_;refine D9 ?_)
 all_goals(refine D3 8 ?_;refine D5 ?_;(refine CF 106 ?_;refine jP 2 rfl rfl rfl EN rfl l (rP xb mb t _ ou _ _ _ _) ?_;intro v1 μ1 i1 f l;dsimp only[aU,aY];have b6:=b6.mono f;have aw:=aw.trans f;have r:=r.mono f;have z:=z.mono f;have o:=o.mono f;have ar:=ar.mono f;have hm:=hm.mono f);refine D9 ?_)
 all_goals refine D8 ?_
 try repeat' (first|((with_reducible show GC _ _ (Code.seq (Code.region 37 _ _) _) _ _ _ _);(apply dX))|refine KZ ?_)
 have b7:=bd.mono aw;have e1:(p.labels.flatMap mZ).length=p.labels.length:=RQ p.labels;have e2:=MQ p.labels;refine gcs (iT (ι:=Mem×Value) (fun y=>MLe μ1 y.1∧SsV y.1 y.2 (p.labels++[t.s])) (fun y=>y.1) (fun _=>[(0,.pointer (some ⟨xb,0,none⟩)),(4,.pointer (some ⟨bn,0,none⟩)),(5,.pointer (some ⟨bp,0,none⟩)),(6,(.slice Am p.mine.length cm))]) (fun y=>.inl ⟨bp,101,12,idx 0 (nL { q with labels:=p.labels++[t.s] } (.slice Ar p.regs.length cr) y.2 (.slice Ao p.loops.length co) (.slice none 0 0))⟩::.inl ⟨bn,24,6,idx 0 (cO t (.slice (some ad) t.kids.length c))⟩::EB xb mb (iX cl1 t.at' 31 (nO wdF t t.s q s)) i1) ?_ ?_)
 ·refine aZ 11 _ (by kernel_rfl) rfl (cP (aD aT)) ?_;all_goals(refine DD 0 ?_;refine DD 1 ?_;refine DD 4 ?_;refine DD 5 ?_)
  refine iZ 2 6 (by kernel_rfl) ?dr13_2 ?dr13_6
  case' dr13_2=>
   (((with_reducible apply jU);(iterate 4 exact rfl);(((with_reducible apply yZ);exact rfl;(repeat with_reducible exact fW);exact rfl))))
   refine iZ 3 6 (by kernel_rfl) ?dr14_3 ?dr14_6
   case' dr14_3=>
    (refine D5 ?_;(with_reducible apply F3 108);exact rfl;exact EN;exact fun w μc hw ag=>CG w μc hw p.labels _ (b7.mono ag.le) (by omega);intro vr;refine D9 ?_)
    all_goals(refine D3 6 ?_;refine D5 ?_;refine NB fun b=>?_;refine D9 ?_)
    all_goals(refine D3 7 ?_;refine D5 ?_;refine AI (k:=fun g cap hcap=>?_);refine D9 ?_)
    all_goals(refine DD 8 ?_;refine DD 9 ?_;refine D3 10 ?_;refine D5 ?_;refine Y0 ?_;refine D9 ?_;refine D8 ?_)
   case' dr14_6=>
    (refine D5 ?_;refine NB fun b=>?_;refine D9 ?_)
    all_goals(refine D3 3 ?_;refine D5 ?_;(with_reducible apply F3 108);exact rfl;exact EN;exact fun w μc hw ag=>CG w μc hw p.labels _ (b7.mono ag.le) (by omega);intro vr;refine D9 ?_)
    all_goals(refine D3 7 ?_;refine D5 ?_;refine AI (k:=fun g cap hcap=>?_);refine D9 ?_)
    all_goals(refine DD 8 ?_;refine DD 9 ?_;refine D3 10 ?_;refine D5 ?_;refine Y0 ?_;refine D9 ?_;refine D8 ?_)
  case' dr13_6=>
   (refine D5 ?_;refine NB fun b=>?_;refine D9 ?_)
   all_goals(refine D3 2 ?_;(with_reducible apply jU);(iterate 4 exact rfl);(((with_reducible apply yZ);exact rfl;(repeat first|with_reducible exact fW|with_reducible apply pQ);exact rfl)))
   all_goals(refine D3 3 ?_;refine D5 ?_;(with_reducible apply F3 108);exact rfl;exact EN;exact fun w μc hw ag=>CG w μc hw p.labels _ (b7.mono ag.le) (by omega);intro vr;refine D9 ?_)
   all_goals(refine D3 7 ?_;refine D5 ?_;refine AI (k:=fun g cap hcap=>?_);refine D9 ?_)
   all_goals(refine DD 8 ?_;refine DD 9 ?_;refine D3 10 ?_;refine D5 ?_;refine Y0 ?_;refine D9 ?_;refine D8 ?_)
  all_goals first
   |(refine DT rfl ?_;intro μ4 ax af;have hv:=SsV.nH (xs:=p.labels++[t.s]) af (by simp) (by rw[cZ];rfl))
   |(refine DS rfl ?_;intro μ4 ax af;have hv:=SsV.nH (xs:=p.labels++[t.s]) af (by simp) (by rw[cZ];rfl))
  all_goals exact fJ (μ4,_) ⟨ax,hv⟩ rfl PU (eB (.cells PU) (eB (.cells PU) (bY _ (gB _))))
 rintro⟨μ2,lv⟩ ⟨ab,b5⟩;dsimp only at ab b5⊢;have olv:=b5.one;have r:=r.mono ab;have z:=z.mono ab;have bu:=bu.mono (aw.trans ab);have a6:=a6.mono (aw.trans ab);have ar:=ar.mono ab;have hm:=hm.mono ab;have l:=l.mono ab;have e1:(p.mine.flatMap mZ).length=p.mine.length:=RQ p.mine;have e2:=MQ p.mine;refine iT (ι:=Mem×Value) (fun y=>MLe μ2 y.1∧SsV y.1 y.2 (p.mine++[t.s])) (fun y=>y.1) (fun _=>[(0,.pointer (some ⟨xb,0,none⟩)),(4,.pointer (some ⟨bn,0,none⟩)),(5,.pointer (some ⟨bp,0,none⟩))]) (fun y=>.inl ⟨bp,101,12,idx 0 (nL { q with labels:=p.labels++[t.s],mine:=p.mine++[t.s] } (.slice Ar p.regs.length cr) lv (.slice Ao p.loops.length co) y.2)⟩::.inl ⟨bn,24,6,idx 0 (cO t (.slice (some ad) t.kids.length c))⟩::EB xb mb (iX cl1 t.at' 31 (nO wdF t t.s q s)) i1) ?_ ?_
 ·refine aZ 8 _ (by kernel_rfl) rfl (cP (aD aT)) ?_;all_goals(refine DD 0 ?_;refine DD 2 ?_;refine DD 3 ?_)
  refine iZ 1 4 (by kernel_rfl) ?dr15_1 ?dr15_4
  case' dr15_1=>
   (refine D5 ?_;(with_reducible apply F3 108);exact rfl;exact EN;exact fun w μc hw ag=>CG w μc hw p.mine _ (ar.mono ag.le) (by omega);intro vr;refine D9 ?_)
   all_goals(refine D3 4 ?_;refine D5 ?_;refine NB fun b=>?_;refine D9 ?_)
   all_goals(refine D3 5 ?_;refine D5 ?_;refine AI (k:=fun g cap hcap=>?_);refine D9 ?_)
   all_goals(refine DD 6 ?_;refine D3 7 ?_;refine D5 ?_;refine Y0 ?_;refine D9 ?_;refine D8 ?_)
  case' dr15_4=>
   (refine D5 ?_;refine NB fun b=>?_;refine D9 ?_)
   all_goals(refine D3 1 ?_;refine D5 ?_;(with_reducible apply F3 108);exact rfl;exact EN;exact fun w μc hw ag=>CG w μc hw p.mine _ (ar.mono ag.le) (by omega);intro vr;refine D9 ?_)
   all_goals(refine D3 5 ?_;refine D5 ?_;refine AI (k:=fun g cap hcap=>?_);refine D9 ?_)
   all_goals(refine DD 6 ?_;refine D3 7 ?_;refine D5 ?_;refine Y0 ?_;refine D9 ?_;refine D8 ?_)
  all_goals first
   |(refine DT rfl ?_;intro μ4 ax af;have hv:=SsV.nH (xs:=p.mine++[t.s]) af (by simp) (by rw[cZ];rfl))
   |(refine DS rfl ?_;intro μ4 ax af;have hv:=SsV.nH (xs:=p.mine++[t.s]) af (by simp) (by rw[cZ];rfl))
  all_goals exact fJ (μ4,_) ⟨ax,hv⟩ rfl PU (eB (.cells PU) (eB (.cells PU) (bY _ (gB _))))
 rintro⟨μ3,mv⟩ ⟨aa,b4⟩;dsimp only at aa b4⊢;have omv:=b4.one;have r:=r.mono aa;have cx:PV μ3 { q with labels:=p.labels++[t.s],mine:=p.mine++[t.s] } (.agg (nL { q with labels:=p.labels++[t.s],mine:=p.mine++[t.s] } (.slice Ar p.regs.length cr) lv (.slice Ao p.loops.length co) mv).toArray):=⟨_,_,_,_,rfl,by show IsV _ _ q.regs;rw[cd];exact bu.mono aa,b5.mono aa,by show SsV _ _ q.loops;rw[cb];exact a6.mono aa,b4⟩;have l:=l.mono aa;refine aZ 7 _ (by kernel_rfl) rfl (aD (aD aT)) ?_;all_goals(refine DD 0 ?_;refine D1 1 ?_;refine DD 2 ?_;refine D2 3 rfl (by exact U1 0) ?_;refine D2 4 rfl (by exact U4 r) ?_;refine DD 5 ?_)
 all_goals(refine D3 6 ?_;refine D5 ?_;refine CF 104 ?_;refine jP 2 rfl rfl rfl EN rfl l (AO N (cJ t 0) bi _ _ { q with labels:=p.labels++[t.s],mine:=p.mine++[t.s] } _ _ xb mb (z.mono aa) cx (b1 t.s _ (by omega)) ah (hm.mono aa)) ?_;intro v1 μ1 i1 f l;dsimp only[aU,aY];refine D9 ?_)
 all_goals refine D8 ?_
 all_goals try repeat' (refine KZ ?_)
 all_goals exact gY 2 i1 (by exact .inr rfl) v rfl rfl (by rw[←j,bt]) l
end
section
open Go.RowKit Go.Vcg
def fX(t:T)(m:Int):Bool:=decide (t.op=4)&&decide (0≤t.n)&&decide ((IntKind.i64.wrap (t.n.tdiv m)).tmod 2=1)
def xU(t:T):Bool:=decide (t.op=2)||fX t 1||decide (6≤t.op)&&decide (t.op≤19)||decide (t.op=21)||decide (t.op=23)
def lS(t:T):Bool:=if t.op=4 then !fX t 1&& !fX t 8&& !fX t 16&& !fX t 32 else decide (30≤t.op)&&decide (t.op≤38)||decide (42≤t.op)&&decide (t.op≤54)
def FK(t:T):Bool:=decide (t.op=2)&&decide (t.kids.length=1)&&JR t 1
attribute [local irreducible] lI G GC GQ GA eV Calls IntKind.wrap Int.decLt Int.decLe
theorem uF(m:Int)(hm:m≠0):∀(t:T) (u:Value) (w:World) (μ:Mem),MOk μ w→KR μ t.kids u→
 bC 90 #[.agg (cO t u).toArray,.int .i64 m] w (.bool (fX t m)):=by
 intro t u w μ hμ hk;have ho:=hk.one;refine aF Tryz.func90 rfl Tryz.ntmps90 (by simp) hμ ?_;try repeat' (first|refine KO ?_|(refine KV (b:=by((with_reducible apply VS);exact rfl;exact rfl;exact hm)) (c:=?_))|refine KZ ?_|refine NB fun b=>?_|(refine KB ?_ ?_<;>intro a))
 all_goals(refine aQ rfl rfl ?_;simp_all[fX];try omega)
theorem FE:tL 95 hH:=by
 intro t u w μ hμ hk hs a;have ho:=hk.one;refine aF Tryz.func95 rfl Tryz.ntmps95 (by simp) hμ ?_;try repeat' (first|refine KZ ?_|refine NB fun b=>?_|(refine KB ?_ ?_<;>intro c))
 all_goals(refine aQ rfl rfl ?_;simp_all[hH];try omega)
theorem FD:tL 94 dC:=by
 intro t u w μ hμ hk hs a;have ho:=hk.one;refine aF Tryz.func94 rfl Tryz.ntmps94 (by simp) hμ ?_;try repeat' (first|refine KO ?_|refine K2 95 (fun w μc hw c=>FE t u w μc hw (hk.mono c) hs a) ?_|refine KZ ?_|refine NB fun b=>?_|(refine KB ?_ ?_<;>intro e))
 all_goals(refine aQ rfl rfl ?_;simp_all[dC];try omega)
theorem xV:tL 43 iC:=by
 intro t u w μ hμ hk hs a;have ho:=hk.one;refine aF Tryz.func43 rfl Tryz.ntmps43 (by simp) hμ ?_;try repeat' (first|refine KZ ?_|refine NB fun b=>?_|(refine KB ?_ ?_<;>intro c))
 all_goals(refine aQ rfl rfl ?_;simp_all[iC];try omega)
theorem aA9:tL 93 xU:=by
 intro t u w μ hμ hk hs c;have ho:=hk.one;refine aF Tryz.func93 rfl Tryz.ntmps93 (by simp) hμ ?_;try repeat' (first|refine KO ?_|refine K2 90 (fun w μc hw a=>uF 1 (by decide) t u w μc hw (hk.mono a)) ?_|refine KZ ?_|refine NB fun b=>?_|(refine KB ?_ ?_<;>intro e))
 all_goals(refine aQ rfl rfl ?_;simp_all[xU];try(intros;omega))
theorem MF:tL 68 lS:=by
 intro t u w μ hμ hk hs c;have ho:=hk.one;refine aF Tryz.func68 rfl Tryz.ntmps68 (by simp) hμ ?_;try repeat' (first|refine KO ?_|((with_reducible apply F1 90);exact rfl;exact EN;exact fun w μc hw a=>uF _ (by decide) t u w μc hw (hk.mono a.le))|refine KZ ?_|refine NB fun b=>?_|(refine KB ?_ ?_<;>intro e))
 all_goals(refine aQ rfl rfl ?_;simp_all[lS];try(intros;omega))
theorem aBb:tL 96 FK:=by
 intro t u w μ hμ hk hs j;have ho:=hk.one;obtain⟨A,c,rfl,q,e⟩:=hk.form;have hlen:=eT t;refine aF Tryz.func96 rfl Tryz.ntmps96 (by simp) hμ ?_;by_cases h0:t.kids.length=1
 ·obtain⟨k,a⟩:=List.length_eq_one_iff.1 h0;obtain⟨ad,x,rfl,hm,o,f⟩:=e 0 k (by rw[a];rfl);obtain⟨A2,c2,rfl,g,-⟩:=f.form;have h:=T.fY (t:=t) (i:=0) (k:=k) (by rw[a];rfl);have p:=eT k;have hg:FK t=(decide (t.op=2)&&decide (k.kids.length=1)):=by unfold FK;rw[BT a,h0];simp
  rw[hg];try repeat' (first|refine KO ?_|(refine KV (b:=by first|exact U1 0|exact U4 hm) (c:=?_))|refine KZ ?_|refine NB fun b=>?_|(refine KB ?_ ?_<;>intro l))
  all_goals(refine aQ rfl rfl ?_;simp_all;try omega)
 ·have hg:FK t=false:=by unfold FK;rw[decide_eq_false h0];simp
  rw[hg];try repeat' (first|refine KZ ?_|refine NB fun b=>?_|(refine KB ?_ ?_<;>intro l))
  all_goals(refine aQ rfl rfl ?_;simp_all;try omega)
theorem DN(s:ByteArray)(hs:s.size≤65536)(w:World)(μ:Mem)(hμ:MOk μ w):
 bC 89 #[.string s] w (.bool (lI s)):=by
 refine aF Tryz.func89 rfl Tryz.ntmps89 (by simp) hμ ?_;try repeat' (refine KZ ?_)
 refine cD (ι:=Nat) (fun i=>i≤s.size∧∀(j:Nat) (c:UInt8),j<i→(bl s)[j]? =some c→zN j c) (fun i=>s.size-i) (fun _=>μ) (fun i=>[(3,.int .i64 i),(0,.string s)]) (fun _=>[]) 0 ⟨aN _,fun j _ h=>absurd h (by omega)⟩ (fun a w hs=>J6 hs) ?_;rintro i ⟨hi,g⟩;by_cases hlt:i<s.size
 ·obtain⟨c,l,t⟩:=aEu (s:=s) (i:=i) hlt;have r:=c.toNat_lt;have f:zN i c→∀(j:Nat) (d:UInt8),j<i+1→(bl s)[j]? =some d→zN j d:=fun h j d u hd=>by
   rcases dL j i with h1|h1
   ·exact g j d h1 hd
   ·obtain rfl:j=i:=by omega
    rw[l]at hd;cases hd;exact h
  have o:¬zN i c→lI s=false:=fun h=>KN fun hf=>h (hf.2 i c l);by_cases hk:zN i c
  ·have hb:=f hk;unfold zN VN aAf at hk;try repeat' (first|refine KO ?_|(refine KV (b:=by exact U2 i) (c:=?_))|refine KZ ?_|(refine KB ?_ ?_<;>intro q))
   all_goals first
    |exact J4 (i+1) ⟨by omega,hb⟩ (by omega)
    |(exfalso;omega)
  ·rw[o hk];unfold zN VN aAf at hk;try repeat' (first|refine KO ?_|(refine KV (b:=by exact U2 i) (c:=?_))|refine KZ ?_|(refine KB ?_ ?_<;>intro q))
   all_goals first
    |exact aQ rfl rfl rfl
    |(exfalso;omega)
 ·obtain rfl:i=s.size:=by omega
  have p:∀(j:Nat) (c:UInt8),(bl s)[j]? =some c→zN j c:=fun j c hc=>g j c (by have:=(List.getElem?_eq_some_iff.1 hc).1;rw[EJ]at this;exact this) hc;have hg:lI s=decide (s≠⟨#[]⟩):=by
   by_cases h:s=⟨#[]⟩
   ·rw[KN fun hf=>hf.1 (by rw[h]),h];simp
   ·rw[UP ⟨fun e=>h (aCw e),p⟩];simp[h]
  rw[hg];try repeat' (refine KZ ?_)
  exact aQ rfl rfl rfl
end
section
open Go.RowKit Go.Vcg
def opsL:List (Int×Int):=[(68,3),(80,5),(66,6),(75,22),(82,39),(81,62),(90,64)]
noncomputable def pU (c:Int) (t:T):Bool:=
 if c=70 then dC t||decide (t.op=63)
 else if c=72 then dC t||decide (t.op=63)||decide (t.op=40)
 else if c=107 then decide (t.op=31)||decide (t.op=30)
 else if c=119 then oK t
 else if c=103 then fX t 16&&JR t 0
 else if c=115 then fX t 32&&JM t
 else if c=109 then fX t 8
 else match opsL.find? (fun x=>decide (x.1=c))with|some x=>decide (t.op=x.2)|none=>false
noncomputable def isT (c:Int) (t:T):Bool:=
 if c=83 then xU t
 else if c=69 then lS t
 else if c=84 then dC t
 else if c=116 then hH t
 else if c=99 then iC t
 else if c=73 then decide (t.op=2)||decide (t.op=8)||decide (t.op=7)
 else if c=77 then lS t||decide (t.op=7)
 else if c=76 then dC t||FK t
 else if c=89 then decide (t.op=6)||decide (t.op=7)
 else if c=67 then decide (t.op=20)||decide (t.op=7)
 else if c=71 then dC t||decide (t.op=7)
 else if c=65 then lS t||decide (t.op=40)||decide (t.op=41)
 else if c=97 then lS t||decide (t.op=41)
 else pU c t
attribute [local irreducible] xU lS dC hH iC FK oK fX pU lI G GC GQ GA eV Calls IntKind.wrap Int.decLt Int.decLe
theorem aNu(f:∀(c:Int) (t:T) (u:Value) (w:World) (μ:Mem),MOk μ w→KR μ t.kids u→t.size≤100000→t.s.size≤65536→bC 97 #[.int .u8 c,.agg (cO t u).toArray] w (.bool (pU c t)))(c:Int)(t:T)(u:Value)(w:World)(μ:Mem)(hμ:MOk μ w)(hk:KR μ t.kids u)(hs:t.size≤100000)(e:t.s.size≤65536):
 bC 70 #[.int .u8 c,.agg (cO t u).toArray] w (.bool (isT c t)):=by
 have ho:=hk.one;refine aF Tryz.func70 rfl Tryz.ntmps70 (by simp) hμ ?_;try repeat' (first|refine KO ?_|refine K2 93 (fun w μc hw a=>aA9 t u w μc hw (hk.mono a) hs e) ?_|refine K2 68 (fun w μc hw a=>MF t u w μc hw (hk.mono a) hs e) ?_|refine K2 94 (fun w μc hw a=>FD t u w μc hw (hk.mono a) hs e) ?_|refine K2 95 (fun w μc hw a=>FE t u w μc hw (hk.mono a) hs e) ?_|refine K2 43 (fun w μc hw a=>xV t u w μc hw (hk.mono a) hs e) ?_|refine K2 96 (fun w μc hw a=>aBb t u w μc hw (hk.mono a) hs e) ?_|refine K2 97 (fun w μc hw a=>f c t u w μc hw (hk.mono a) hs e) ?_|refine KZ ?_|refine NB fun b=>?_|(refine KB ?_ ?_<;>intro g))
 all_goals(clear f hk ho hμ;refine aQ rfl rfl ?_;simp_all[isT])
end
section
open Go.RowKit Go.Vcg
attribute [local irreducible] dC oK fX lI G GC GQ GA eV Calls IntKind.wrap Int.decLt Int.decLe
theorem aRg(t:T)(u:Value)(w:World)(μ:Mem)(hμ:MOk μ w)(hk:KR μ t.kids u)(hs:t.size≤100000)(p:t.s.size≤65536):
 bC 97 #[.int .u8 103,.agg (cO t u).toArray] w (.bool (fX t 16&&JR t 0)):=by
 have ho:=hk.one;obtain⟨A,c0,rfl,z,f⟩:=hk.form;have hlen:=eT t;refine aF Tryz.func97 rfl Tryz.ntmps97 (by simp) hμ ?_;have j:=fun(m:Int) (hm:m≠0) (w:World) (μc:Mem) (hw:MOk μc w) (hle:MLe μ μc)=>uF m hm t _ w μc hw (hk.mono hle);by_cases h0:t.kids.length=0
 ·rw[XZ (bV h0),gU];try repeat' (first|refine KO ?_|refine K2 90 (j 16 (by decide)) ?_|refine KZ ?_|refine NB fun b=>?_|(refine KB ?_ ?_<;>intro q))
  all_goals(refine aQ rfl rfl ?_;simp_all)
 ·obtain⟨k,r,a⟩:=iH (l:=t.kids) (by intro e;rw[e]at h0;exact h0 rfl);obtain⟨ad,x,rfl,hm,v,g⟩:=f 0 k (by rw[a];rfl);obtain⟨A2,c2,rfl,h,-⟩:=g.form;have o:=T.fY (t:=t) (i:=0) (k:=k) (by rw[a];rfl);have y:=eT k;rw[BT a];try repeat' (first|refine KO ?_|refine K2 90 (j 16 (by decide)) ?_|(refine KV (b:=by first|exact U1 0|exact U4 hm) (c:=?_))|refine KZ ?_|refine NB fun b=>?_|(refine KB ?_ ?_<;>intro q))
  all_goals(refine aQ rfl rfl ?_;simp_all)
theorem aRf(t:T)(u:Value)(w:World)(μ:Mem)(hμ:MOk μ w)(hk:KR μ t.kids u)(hs:t.size≤100000)(ae:t.s.size≤65536):
 bC 97 #[.int .u8 115,.agg (cO t u).toArray] w (.bool (fX t 32&&JM t)):=by
 have ho:=hk.one;obtain⟨A,c0,rfl,ah,g⟩:=hk.form;have hlen:=eT t;refine aF Tryz.func97 rfl Tryz.ntmps97 (by simp) hμ ?_;have o:=fun(m:Int) (hm:m≠0) (w:World) (μc:Mem) (hw:MOk μc w) (hle:MLe μ μc)=>uF m hm t _ w μc hw (hk.mono hle);by_cases h0:t.kids.length=0
 ·rw[WK (bV h0),gU];try repeat' (first|refine KO ?_|refine K2 90 (o 32 (by decide)) ?_|refine KZ ?_|refine NB fun b=>?_|(refine KB ?_ ?_<;>intro q))
  all_goals(refine aQ rfl rfl ?_;simp_all)
 ·obtain⟨k,r,a⟩:=iH (l:=t.kids) (by intro e;rw[e]at h0;exact h0 rfl);obtain⟨ad,x,rfl,hm,af,j⟩:=g 0 k (by rw[a];rfl);obtain⟨A2,c2,rfl,z,f⟩:=j.form;have ab:=T.fY (t:=t) (i:=0) (k:=k) (by rw[a];rfl);have ag:=eT k;by_cases h1:k.kids.length=1
  ·obtain⟨y,p⟩:=List.length_eq_one_iff.1 h1;obtain⟨ad2,x2,rfl,h,v,aa⟩:=f 0 y (by rw[p];rfl);rw[WJ a p];try repeat' (first|refine KO ?_|refine K2 90 (o 32 (by decide)) ?_|(refine KV (b:=by first|exact U1 0|exact U4 hm|exact U4 h) (c:=?_))|refine KZ ?_|refine NB fun b=>?_|(refine KB ?_ ?_<;>intro q))
   all_goals(refine aQ rfl rfl ?_;simp_all)
  ·rw[aDd a h1,gU];try repeat' (first|refine KO ?_|refine K2 90 (o 32 (by decide)) ?_|(refine KV (b:=by first|exact U1 0|exact U4 hm) (c:=?_))|refine KZ ?_|refine NB fun b=>?_|(refine KB ?_ ?_<;>intro q))
   all_goals(refine aQ rfl rfl ?_;simp_all;try omega)
theorem aFl(c:Int)(t:T)(u:Value)(w:World)(μ:Mem)(hμ:MOk μ w)(hk:KR μ t.kids u)(hs:t.size≤100000)(f:t.s.size≤65536):
 bC 97 #[.int .u8 c,.agg (cO t u).toArray] w (.bool (pU c t)):=by
 by_cases l:c=103
 ·subst l;exact aRg t u w μ hμ hk hs f
 by_cases j:c=115
 ·subst j;exact aRf t u w μ hμ hk hs f
 have ho:=hk.one;obtain⟨A,c0,rfl,v,g⟩:=hk.form;have hlen:=eT t;refine aF Tryz.func97 rfl Tryz.ntmps97 (by simp) hμ ?_;have p:=fun(m:Int) (hm:m≠0) (w:World) (μc:Mem) (hw:MOk μc w) (hle:MLe μ μc)=>uF m hm t _ w μc hw (hk.mono hle);have ht:=fun w μc hw (hle:MLe μ μc)=>FD t _ w μc hw (hk.mono hle) hs f;by_cases z:c=70∨c=72∨c=107∨c=119∨c=109
 ·try repeat' (first|refine KO ?_|refine K2 94 ht ?_|refine K2 89 (fun w μc hw q=>DN t.s f w μc hw) ?_|refine K2 90 (p 8 (by decide)) ?_|refine KZ ?_|refine NB fun b=>?_|(refine KB ?_ ?_<;>intro y))
  all_goals first|(clear hk ho hμ p ht g;refine aQ rfl rfl ?_;simp_all[pU,oK];done)|skip
 ·try repeat' (first|((with_reducible show GC _ _ (Code.seq (Code.region 16 _ _) _) _ _ _ _);(apply dX))|refine KZ ?_|refine NB fun b=>?_)
  all_goals try(exfalso;omega)
  rename Nat=>ba
  refine gcs ?_;have e:∀r:Bool,(match opsL.find? (fun x=>decide (x.1=c))with|some x=>decide (t.op=x.2)|none=>false)=r→pU c t=r:=fun r h=>by unfold pU;rw[if_neg (by omega),if_neg (by omega),if_neg (by omega),if_neg (by omega),if_neg (by omega),if_neg (by omega),if_neg (by omega)];exact h
  try repeat' (first|refine KZ ?_|refine NB fun b=>?_)
  refine cD (ι:=Nat) (fun i=>i≤7∧(1≤i→c≠68)∧(2≤i→c≠80)∧(3≤i→c≠66)∧(4≤i→c≠75)∧(5≤i→c≠82)∧(6≤i→c≠81)∧(7≤i→c≠90)) (fun i=>7-i) (fun _=>μ) (fun i=>[(7,.int .i64 i),(5,.string ⟨#[68,80,66,75,82,81,90]⟩),(6,.slice (some ⟨b,0,none⟩) 7 7),(0,.int .u8 c),(3,.pointer (some ⟨ba,0,none⟩))]) (fun _=>[.inl ⟨b,3,7,idx 0 [.int .i64 3,.int .i64 5,.int .i64 6,.int .i64 22,.int .i64 39,.int .i64 62,.int .i64 64]⟩,.inl ⟨ba,24,6,idx 0 (cO t (.slice A t.kids.length c0))⟩]) 0 (by omega) (fun a w hs=>J5 hs) ?_;rintro i ⟨hi,q0,q1,q2,q3,q4,q5,q6⟩;have e0:bAt ⟨#[68,80,66,75,82,81,90]⟩ 0=68:=rfl;have e1:bAt ⟨#[68,80,66,75,82,81,90]⟩ 1=80:=rfl;have e2:bAt ⟨#[68,80,66,75,82,81,90]⟩ 2=66:=rfl;have e3:bAt ⟨#[68,80,66,75,82,81,90]⟩ 3=75:=rfl;have e4:bAt ⟨#[68,80,66,75,82,81,90]⟩ 4=82:=rfl;have e5:bAt ⟨#[68,80,66,75,82,81,90]⟩ 5=81:=rfl;have e6:bAt ⟨#[68,80,66,75,82,81,90]⟩ 6=90:=rfl;have o:ByteArray.size ⟨#[68,80,66,75,82,81,90]⟩=7:=rfl;rcases(by omega:i=7∨i=0∨i=1∨i=2∨i=3∨i=4∨i=5∨i=6)with rfl|rfl|rfl|rfl|rfl|rfl|rfl|rfl
  ·rw[e false (by simp[opsL,q0,q1,q2,q3,q4,q5,q6,show¬(68:Int)=c from fun h=>q0 (by omega) h.symm,show¬(80:Int)=c from fun h=>q1 (by omega) h.symm,show¬(66:Int)=c from fun h=>q2 (by omega) h.symm,show¬(75:Int)=c from fun h=>q3 (by omega) h.symm,show¬(82:Int)=c from fun h=>q4 (by omega) h.symm,show¬(81:Int)=c from fun h=>q5 (by omega) h.symm,show¬(90:Int)=c from fun h=>q6 (by omega) h.symm])];try repeat' (refine KZ ?_)
   all_goals exact aQ rfl rfl rfl
  ·by_cases hc:c=68
   ·rw[e (decide (t.op=3)) (by rw[hc];rfl)];clear e;try repeat' (first|refine KO ?_|(refine KV (b:=by exact U2 0) (c:=?_)))
    all_goals try(exfalso;omega)
    refine aZ 8 _ (by kernel_rfl) rfl (aD (aD aT)) ?_;all_goals(refine D1 0 ?_;refine DD 1 ?_;refine DD 2 ?_;refine DD 3 ?_;refine D2 4 rfl (by exact U1 0) ?_;refine DD 5 ?_;refine D1 6 ?_;refine DD 7 ?_;refine D8 ?_)
    try repeat' (refine KZ ?_)
    all_goals exact aQ rfl rfl rfl
   ·clear e;try repeat' (first|refine KO ?_|(refine KV (b:=by exact U2 0) (c:=?_))|refine KZ ?_)
    all_goals exact J2 1 (by omega) (by decide)
  ·by_cases hc:c=80
   ·rw[e (decide (t.op=5)) (by rw[hc];rfl)];clear e;try repeat' (first|refine KO ?_|(refine KV (b:=by exact U2 1) (c:=?_)))
    all_goals try(exfalso;omega)
    refine aZ 8 _ (by kernel_rfl) rfl (aD (aD aT)) ?_;all_goals(refine D1 0 ?_;refine DD 1 ?_;refine DD 2 ?_;refine DD 3 ?_;refine D2 4 rfl (by exact U1 1) ?_;refine DD 5 ?_;refine D1 6 ?_;refine DD 7 ?_;refine D8 ?_)
    try repeat' (refine KZ ?_)
    all_goals exact aQ rfl rfl rfl
   ·clear e;try repeat' (first|refine KO ?_|(refine KV (b:=by exact U2 1) (c:=?_))|refine KZ ?_)
    all_goals exact J2 2 (by omega) (by decide)
  ·by_cases hc:c=66
   ·rw[e (decide (t.op=6)) (by rw[hc];rfl)];clear e;try repeat' (first|refine KO ?_|(refine KV (b:=by exact U2 2) (c:=?_)))
    all_goals try(exfalso;omega)
    refine aZ 8 _ (by kernel_rfl) rfl (aD (aD aT)) ?_;all_goals(refine D1 0 ?_;refine DD 1 ?_;refine DD 2 ?_;refine DD 3 ?_;refine D2 4 rfl (by exact U1 2) ?_;refine DD 5 ?_;refine D1 6 ?_;refine DD 7 ?_;refine D8 ?_)
    try repeat' (refine KZ ?_)
    all_goals exact aQ rfl rfl rfl
   ·clear e;try repeat' (first|refine KO ?_|(refine KV (b:=by exact U2 2) (c:=?_))|refine KZ ?_)
    all_goals exact J2 3 (by omega) (by decide)
  ·by_cases hc:c=75
   ·rw[e (decide (t.op=22)) (by rw[hc];rfl)];clear e;try repeat' (first|refine KO ?_|(refine KV (b:=by exact U2 3) (c:=?_)))
    all_goals try(exfalso;omega)
    refine aZ 8 _ (by kernel_rfl) rfl (aD (aD aT)) ?_;all_goals(refine D1 0 ?_;refine DD 1 ?_;refine DD 2 ?_;refine DD 3 ?_;refine D2 4 rfl (by exact U1 3) ?_;refine DD 5 ?_;refine D1 6 ?_;refine DD 7 ?_;refine D8 ?_)
    try repeat' (refine KZ ?_)
    all_goals exact aQ rfl rfl rfl
   ·clear e;try repeat' (first|refine KO ?_|(refine KV (b:=by exact U2 3) (c:=?_))|refine KZ ?_)
    all_goals exact J2 4 (by omega) (by decide)
  ·by_cases hc:c=82
   ·rw[e (decide (t.op=39)) (by rw[hc];rfl)];clear e;try repeat' (first|refine KO ?_|(refine KV (b:=by exact U2 4) (c:=?_)))
    all_goals try(exfalso;omega)
    refine aZ 8 _ (by kernel_rfl) rfl (aD (aD aT)) ?_;all_goals(refine D1 0 ?_;refine DD 1 ?_;refine DD 2 ?_;refine DD 3 ?_;refine D2 4 rfl (by exact U1 4) ?_;refine DD 5 ?_;refine D1 6 ?_;refine DD 7 ?_;refine D8 ?_)
    try repeat' (refine KZ ?_)
    all_goals exact aQ rfl rfl rfl
   ·clear e;try repeat' (first|refine KO ?_|(refine KV (b:=by exact U2 4) (c:=?_))|refine KZ ?_)
    all_goals exact J2 5 (by omega) (by decide)
  ·by_cases hc:c=81
   ·rw[e (decide (t.op=62)) (by rw[hc];rfl)];clear e;try repeat' (first|refine KO ?_|(refine KV (b:=by exact U2 5) (c:=?_)))
    all_goals try(exfalso;omega)
    refine aZ 8 _ (by kernel_rfl) rfl (aD (aD aT)) ?_;all_goals(refine D1 0 ?_;refine DD 1 ?_;refine DD 2 ?_;refine DD 3 ?_;refine D2 4 rfl (by exact U1 5) ?_;refine DD 5 ?_;refine D1 6 ?_;refine DD 7 ?_;refine D8 ?_)
    try repeat' (refine KZ ?_)
    all_goals exact aQ rfl rfl rfl
   ·clear e;try repeat' (first|refine KO ?_|(refine KV (b:=by exact U2 5) (c:=?_))|refine KZ ?_)
    all_goals exact J2 6 (by omega) (by decide)
  ·by_cases hc:c=90
   ·rw[e (decide (t.op=64)) (by rw[hc];rfl)];clear e;try repeat' (first|refine KO ?_|(refine KV (b:=by exact U2 6) (c:=?_)))
    all_goals try(exfalso;omega)
    refine aZ 8 _ (by kernel_rfl) rfl (aD (aD aT)) ?_;all_goals(refine D1 0 ?_;refine DD 1 ?_;refine DD 2 ?_;refine DD 3 ?_;refine D2 4 rfl (by exact U1 6) ?_;refine DD 5 ?_;refine D1 6 ?_;refine DD 7 ?_;refine D8 ?_)
    try repeat' (refine KZ ?_)
    all_goals exact aQ rfl rfl rfl
   ·clear e;try repeat' (first|refine KO ?_|(refine KV (b:=by exact U2 6) (c:=?_))|refine KZ ?_)
    all_goals exact J2 7 (by omega) (by decide)
end
section
open Go.RowKit Go.Vcg
noncomputable def pT:List UInt8→List T→Bool
 |[],l=>decide (l.length=0)
 | [c],l=>match l with
   |k::r=>if isT (c.toNat:Int) k=true then decide (r.length=0)else false
   |[]=>false
 | c::d::rr,l=>
   if d=42 then pT rr (l.dropWhile (isT (c.toNat:Int)))
   else match l with
    |k::r=>if isT (c.toNat:Int) k=true then(if d=63 then pT rr r else pT (d::rr) r)else(if d=63 then pT rr (k::r)else false)
    |[]=>if d=63 then pT rr []else false
theorem QI(c:UInt8)(rr:List UInt8)(l:List T):pT (c::42::rr) l=pT rr (l.dropWhile (isT (c.toNat:Int))):=by
 rw[pT.eq_def];simp
theorem aIk(c:UInt8)(rr:List UInt8)(l:List T):pT (c::63::rr) l=pT rr (match l with|k::r=>if isT (c.toNat:Int) k=true then r else k::r|[]=>[]):=by
 rw[pT.eq_def];cases l with
 |nil=>simp
 |cons k r=>cases h:isT (c.toNat:Int) k<;>simp[h]
theorem aIm{c d:UInt8}{rr:List UInt8}{l:List T}(h1:d≠42)(h2:d≠63):pT (c::d::rr) l=match l with|k::r=>if isT (c.toNat:Int) k=true then pT (d::rr) r else false|[]=>false:=by
 rw[pT.eq_def];cases l with
 |nil=>simp[h1,h2]
 |cons k r=>cases h:isT (c.toNat:Int) k<;>simp[h,h1,h2]
theorem MA(l:List T):pT [] l=decide (l.length=0):=by rw[pT.eq_def]
theorem aIn(c:UInt8)(l:List T):pT [c] l=match l with|k::r=>if isT (c.toNat:Int) k=true then pT [] r else false|[]=>false:=by
 rw[pT.eq_def];cases l with
 |nil=>simp
 |cons k r=>simp[MA]
attribute [local irreducible] isT G GC GQ GA eV Calls IntKind.wrap Int.decLt Int.decLe
theorem aIj(s:ByteArray)(bf:s.size≤1000)(ks:List T)(A:Option Addr)(n c:Nat)(w:World)(μ:Mem)(hμ:MOk μ w)(hk:KR μ ks (.slice A n c))(ar:ks.length=n)(hn:n≤100000)(ak:∀k∈ks,T.size k≤100000∧k.s.size≤65536):
 bC 46 #[.string s,.slice A n c] w (.bool (pT (bl s) ks)):=by
 refine aF Tryz.func46 rfl Tryz.ntmps46 (by simp) hμ ?_;have al:=fun(c:Int) (t:T) (u:Value) (w:World) (μc:Mem) (hw:MOk μc w) (hk:KR μc t.kids u) (h1:t.size≤100000) (h2:t.s.size≤65536)=>aNu aFl c t u w μc hw hk h1 h2;generalize hR:pT (bl s) ks=R;try repeat' (refine KZ ?_)
 refine cD (ι:=Nat×Nat×Option Addr×Nat) (fun i=>i.1≤s.size∧i.2.1≤n∧KR μ (ks.drop i.2.1) (.slice i.2.2.1 (n-i.2.1) i.2.2.2)∧pT ((bl s).drop i.1) (ks.drop i.2.1)=R) (fun i=>s.size-i.1) (fun _=>μ) (fun i=>[(5,.int .i64 i.1),(0,.string s),(1,.slice i.2.2.1 (n-i.2.1) i.2.2.2)]) (fun _=>[]) (0,0,A,c) ⟨by simp,by simp,by simpa using hk,by simpa using hR⟩ (fun a w hs=>J6 hs) ?_;rintro⟨i,j,Aj,cj⟩ ⟨hi,hj,ad,g⟩;dsimp only at hi hj ad g⊢;by_cases hlt:i<s.size
 ·obtain⟨x,hx1,aj⟩:=aEu (s:=s) (i:=i) hlt;have a8:=drop_cons hx1;rw[a8]at g;have au:(ks.drop j).length=n-j:=by rw[dA,ar]
  by_cases ay:i+1<s.size
  ·obtain⟨y,a7,ai⟩:=aEu (s:=s) (i:=i+1) ay;have ax:=drop_cons a7;rw[ax]at g;have bd:=y.toNat_lt;by_cases ao:y=42
   ·subst ao;have a6:bAt s (i+1)=42:=ai;try repeat' (first|refine KO ?_|(refine KV (b:=by exact U2 (i+1)) (c:=?_))|refine KZ ?_)
    rw[QI,←aj]at g;refine cD (ι:=Nat×Option Addr×Nat) (fun q=>q.1≤n∧KR μ (ks.drop q.1) (.slice q.2.1 (n-q.1) q.2.2)∧(ks.drop q.1).dropWhile (isT (bAt s i))=(ks.drop j).dropWhile (isT (bAt s i))) (fun q=>n-q.1) (fun _=>μ) (fun q=>[(5,.int .i64 i),(0,.string s),(1,.slice q.2.1 (n-q.1) q.2.2)]) (fun _=>[]) (j,Aj,cj) ⟨hj,ad,rfl⟩ (fun a w hs=>J5 hs) ?_;rintro⟨j2,A2,c2⟩ ⟨av,ah,aw⟩;dsimp only at av ah aw⊢;have an:(ks.drop j2).dropWhile (isT (bAt s i))=ks.drop j2→pT ((bl s).drop (i+2)) (ks.drop j2)=R:=fun h=>by rw[←g,←aw,h]
    by_cases ag:j2<n
    ·have r:ks[j2]? =some ks[j2]:=aA (by omega);generalize ks[j2]=t at r;have l:=sL r;have aa:=ah.DA (by omega);rw[lC]at aa;obtain⟨A',c',e,ae,ab⟩:=ah.form;have az:(ks.drop j2).length=n-j2:=by rw[dA,ar]
     rw[az]at e ae;cases e;obtain⟨ad2,u2,rfl,z,aq,af⟩:=ab 0 t (by rw[l];rfl);have v:=ak t (aB r);have f:=fun w μc hw (hle:MLe μ μc)=>al (bAt s i) t u2 w μc hw (af.mono hle) v.1 v.2;cases o:isT (bAt s i) t
     ·have hE:=an (by rw[l,iW,if_neg (by simp[o])]);rw[o]at f;try repeat' (refine KZ ?_)
      refine aZ 12 ([]) (by kernel_rfl) rfl (by exact bQ _) ?_;all_goals(refine DD 0 ?_;refine D1 1 ?_;refine D1 2 ?_;refine DD 3 ?_)
      all_goals(try(refine D7 4 ?_;(repeat' (refine KO ?_))))
      all_goals(refine DD 4 ?_;refine DD 5 ?_;refine D2 6 rfl (by exact U2 i) ?_;refine DD 7 ?_;refine D2 8 rfl (by exact U1 0) ?_;refine D2 9 rfl (by exact U4 z) ?_)
      all_goals(refine D3 10 ?_;refine D5 ?_;(with_reducible apply C1);exact rfl;exact EN;exact fun w μc hw p=>f w μc hw p.le;refine D9 ?_)
      all_goals(refine DD 11 ?_;refine D8 ?_)
      all_goals
       try repeat' (refine KZ ?_)
      all_goals first
       |exact J2 (i+2,j2,_,_) ⟨by show i+2≤s.size;omega,av,ah,hE⟩ (by show s.size- (i+2)<s.size-i;omega)
       |(exfalso;omega)
     ·rw[o]at f;have hE:(ks.drop (j2+1)).dropWhile (isT (bAt s i))=(ks.drop j).dropWhile (isT (bAt s i)):=by rw[←aw,l,iW,if_pos o]
      try repeat' (refine KZ ?_)
      refine aZ 12 ([]) (by kernel_rfl) rfl (by exact bQ _) ?_;all_goals(refine DD 0 ?_;refine D1 1 ?_;refine D1 2 ?_;refine DD 3 ?_)
      all_goals(try(refine D7 4 ?_;(repeat' (refine KO ?_))))
      all_goals(refine DD 4 ?_;refine DD 5 ?_;refine D2 6 rfl (by exact U2 i) ?_;refine DD 7 ?_;refine D2 8 rfl (by exact U1 0) ?_;refine D2 9 rfl (by exact U4 z) ?_)
      all_goals(refine D3 10 ?_;refine D5 ?_;(with_reducible apply C1);exact rfl;exact EN;exact fun w μc hw p=>f w μc hw p.le;refine D9 ?_)
      all_goals(refine DD 11 ?_;refine D8 ?_)
      all_goals
       try repeat' (first|refine KO ?_|(refine KV (b:=by((with_reducible apply lL 1);(iterate 5 exact rfl);omega)) (c:=?_)))
      all_goals first
       |exact J2 (j2+1,_,_) ⟨by show j2+1≤n;omega,aa,hE⟩ (by show n- (j2+1)<n-j2;omega)
       |(exfalso;omega)
    ·obtain rfl:j2=n:=by omega
     have l:ks.drop j2=[]:=cB (by omega);have hE:=an (by rw[l];rfl);try repeat' (refine KZ ?_)
     refine aZ 12 ([]) (by kernel_rfl) rfl (by exact bQ _) ?_;all_goals(refine DD 0 ?_;refine D1 1 ?_;refine D1 2 ?_;refine DD 3 ?_)
     all_goals(try(refine D7 4 ?_;(repeat' (refine KO ?_))))
     all_goals(refine DD 4 ?_;refine DD 5 ?_;refine D1 6 ?_;refine DD 7 ?_;refine D1 8 ?_;refine D1 9 ?_;refine D3 10 (D6 ?_);refine DD 11 ?_;refine D8 ?_)
     all_goals
      try repeat' (refine KZ ?_)
     all_goals first
      |exact J2 (i+2,j2,_,_) ⟨by show i+2≤s.size;omega,av,ah,hE⟩ (by show s.size- (i+2)<s.size-i;omega)
      |(exfalso;omega)
   ·have bc:bAt s (i+1)≠42:=fun h=>ao (UInt8.toNat_inj.1 (by rw[ai]at h;simpa using(by omega:y.toNat=42)));by_cases ap:y=63
    ·subst ap;have a6:bAt s (i+1)=63:=ai;rw[aIk,←aj]at g;by_cases ag:j<n
     ·have r:ks[j]? =some ks[j]:=aA (by omega);generalize ks[j]=t at r;have l:=sL r;have aa:=ad.DA (by omega);rw[lC]at aa;obtain⟨A',c',e,ae,ab⟩:=ad.form;rw[au]at e ae;cases e;obtain⟨ad2,u2,rfl,z,aq,af⟩:=ab 0 t (by rw[l];rfl);have v:=ak t (aB r);have f:=fun w μc hw (hle:MLe μ μc)=>al (bAt s i) t u2 w μc hw (af.mono hle) v.1 v.2;rw[l]at g;dsimp only at g;cases o:isT (bAt s i) t
      ·rw[o,if_neg (by simp)]at g;rw[o]at f;rw[←l]at g;try repeat' (first|refine KO ?_|(refine KV (b:=by exact U2 (i+1)) (c:=?_))|refine KZ ?_)
       refine aZ 13 ([]) (by kernel_rfl) rfl (by exact bQ _) ?_;all_goals(refine DD 0 ?_;refine D1 1 ?_;refine D1 2 ?_;refine DD 3 ?_)
       all_goals(try(refine D7 4 ?_;(repeat' (refine KO ?_))))
       all_goals(refine DD 4 ?_;refine DD 5 ?_;refine D2 6 rfl (by exact U2 i) ?_;refine DD 7 ?_;refine D2 8 rfl (by exact U1 0) ?_;refine D2 9 rfl (by exact U4 z) ?_)
       all_goals(refine D3 10 ?_;refine D5 ?_;(with_reducible apply C1);exact rfl;exact EN;exact fun w μc hw p=>f w μc hw p.le;refine D9 ?_)
       all_goals(refine DD 11 ?_;refine DD 12 ?_;refine D8 ?_)
       all_goals
        try repeat' (refine KZ ?_)
       all_goals exact J2 (i+2,j,_,_) ⟨by show i+2≤s.size;omega,hj,ad,g⟩ (by show s.size- (i+2)<s.size-i;omega)
      ·rw[o,if_pos rfl]at g;rw[o]at f;try repeat' (first|refine KO ?_|(refine KV (b:=by exact U2 (i+1)) (c:=?_))|refine KZ ?_)
       refine aZ 13 ([]) (by kernel_rfl) rfl (by exact bQ _) ?_;all_goals(refine DD 0 ?_;refine D1 1 ?_;refine D1 2 ?_;refine DD 3 ?_)
       all_goals(try(refine D7 4 ?_;(repeat' (refine KO ?_))))
       all_goals(refine DD 4 ?_;refine DD 5 ?_;refine D2 6 rfl (by exact U2 i) ?_;refine DD 7 ?_;refine D2 8 rfl (by exact U1 0) ?_;refine D2 9 rfl (by exact U4 z) ?_)
       all_goals(refine D3 10 ?_;refine D5 ?_;(with_reducible apply C1);exact rfl;exact EN;exact fun w μc hw p=>f w μc hw p.le;refine D9 ?_)
       all_goals(refine DD 11 ?_;refine DD 12 ?_;refine D8 ?_)
       all_goals
        try repeat' (first|refine KO ?_|(refine KV (b:=by((with_reducible apply lL 1);(iterate 5 exact rfl);omega)) (c:=?_))|refine KZ ?_)
       all_goals exact J2 (i+2,j+1,_,_) ⟨by show i+2≤s.size;omega,by show j+1≤n;omega,aa,g⟩ (by show s.size- (i+2)<s.size-i;omega)
     ·obtain rfl:j=n:=by omega
      have l:ks.drop j=[]:=cB (by omega);rw[l]at g;dsimp only at g;rw[←l]at g;try repeat' (first|refine KO ?_|(refine KV (b:=by exact U2 (i+1)) (c:=?_))|refine KZ ?_)
      refine aZ 13 ([]) (by kernel_rfl) rfl (by exact bQ _) ?_;all_goals(refine DD 0 ?_;refine D1 1 ?_;refine D1 2 ?_;refine DD 3 ?_)
      all_goals(try(refine D7 4 ?_;(repeat' (refine KO ?_))))
      all_goals(refine DD 4 ?_;refine DD 5 ?_;refine D1 6 ?_;refine DD 7 ?_;refine D1 8 ?_;refine D1 9 ?_;refine D3 10 (D6 ?_);refine DD 11 ?_;refine DD 12 ?_;refine D8 ?_)
      all_goals
       try repeat' (refine KZ ?_)
      all_goals exact J2 (i+2,j,_,_) ⟨by show i+2≤s.size;omega,hj,ad,g⟩ (by show s.size- (i+2)<s.size-i;omega)
    ·have bb:bAt s (i+1)≠63:=fun h=>ap (UInt8.toNat_inj.1 (by rw[ai]at h;simpa using(by omega:y.toNat=63)));rw[aIm ao ap,←aj,←ax]at g;by_cases ag:j<n
     ·have r:ks[j]? =some ks[j]:=aA (by omega);generalize ks[j]=t at r;have l:=sL r;have aa:=ad.DA (by omega);rw[lC]at aa;obtain⟨A',c',e,ae,ab⟩:=ad.form;rw[au]at e ae;cases e;obtain⟨ad2,u2,rfl,z,aq,af⟩:=ab 0 t (by rw[l];rfl);have v:=ak t (aB r);have f:=fun w μc hw (hle:MLe μ μc)=>al (bAt s i) t u2 w μc hw (af.mono hle) v.1 v.2;rw[l]at g;dsimp only at g;cases o:isT (bAt s i) t
      ·rw[o,if_neg (by simp)]at g;rw[o]at f;try repeat' (first|refine KO ?_|(refine KV (b:=by exact U2 (i+1)) (c:=?_))|refine KZ ?_)
       refine aZ 13 ([]) (by kernel_rfl) rfl (by exact bQ _) ?_;all_goals(refine DD 0 ?_;refine D1 1 ?_;refine D1 2 ?_;refine DD 3 ?_)
       all_goals(try(refine D7 4 ?_;(repeat' (refine KO ?_))))
       all_goals(refine DD 4 ?_;refine DD 5 ?_;refine D2 6 rfl (by exact U2 i) ?_;refine DD 7 ?_;refine D2 8 rfl (by exact U1 0) ?_;refine D2 9 rfl (by exact U4 z) ?_)
       all_goals(refine D3 10 ?_;refine D5 ?_;(with_reducible apply C1);exact rfl;exact EN;exact fun w μc hw p=>f w μc hw p.le;refine D9 ?_)
       all_goals(refine DD 11 ?_;refine DD 12 ?_;refine D8 ?_)
       all_goals
        try repeat' (refine KO ?_)
       all_goals exact aQ rfl rfl (congrArg _ g)
      ·rw[o,if_pos rfl]at g;rw[o]at f;try repeat' (first|refine KO ?_|(refine KV (b:=by exact U2 (i+1)) (c:=?_))|refine KZ ?_)
       refine aZ 13 ([]) (by kernel_rfl) rfl (by exact bQ _) ?_;all_goals(refine DD 0 ?_;refine D1 1 ?_;refine D1 2 ?_;refine DD 3 ?_)
       all_goals(try(refine D7 4 ?_;(repeat' (refine KO ?_))))
       all_goals(refine DD 4 ?_;refine DD 5 ?_;refine D2 6 rfl (by exact U2 i) ?_;refine DD 7 ?_;refine D2 8 rfl (by exact U1 0) ?_;refine D2 9 rfl (by exact U4 z) ?_)
       all_goals(refine D3 10 ?_;refine D5 ?_;(with_reducible apply C1);exact rfl;exact EN;exact fun w μc hw p=>f w μc hw p.le;refine D9 ?_)
       all_goals(refine DD 11 ?_;refine DD 12 ?_;refine D8 ?_)
       all_goals
        try repeat' (first|refine KO ?_|(refine KV (b:=by((with_reducible apply lL 1);(iterate 5 exact rfl);omega)) (c:=?_))|refine KZ ?_)
       all_goals exact J2 (i+1,j+1,_,_) ⟨by show i+1≤s.size;omega,by show j+1≤n;omega,aa,g⟩ (by show s.size- (i+1)<s.size-i;omega)
     ·obtain rfl:j=n:=by omega
      have l:ks.drop j=[]:=cB (by omega);rw[l]at g;dsimp only at g;try repeat' (first|refine KO ?_|(refine KV (b:=by exact U2 (i+1)) (c:=?_))|refine KZ ?_)
      refine aZ 13 ([]) (by kernel_rfl) rfl (by exact bQ _) ?_;all_goals(refine DD 0 ?_;refine D1 1 ?_;refine D1 2 ?_;refine DD 3 ?_)
      all_goals(try(refine D7 4 ?_;(repeat' (refine KO ?_))))
      all_goals(refine DD 4 ?_;refine DD 5 ?_;refine D1 6 ?_;refine DD 7 ?_;refine D1 8 ?_;refine D1 9 ?_;refine D3 10 (D6 ?_);refine DD 11 ?_;refine DD 12 ?_;refine D8 ?_)
      all_goals
       try repeat' (refine KZ ?_)
      all_goals exact aQ rfl rfl (congrArg _ g)
  ·have a1:(bl s).drop (i+1)=[]:=cB (by rw[EJ];omega);rw[a1,aIn,←aj,←a1]at g;by_cases ag:j<n
   ·have r:ks[j]? =some ks[j]:=aA (by omega);generalize ks[j]=t at r;have l:=sL r;have aa:=ad.DA (by omega);rw[lC]at aa;obtain⟨A',c',e,ae,ab⟩:=ad.form;rw[au]at e ae;cases e;obtain⟨ad2,u2,rfl,z,aq,af⟩:=ab 0 t (by rw[l];rfl);have v:=ak t (aB r);have f:=fun w μc hw (hle:MLe μ μc)=>al (bAt s i) t u2 w μc hw (af.mono hle) v.1 v.2;rw[l]at g;dsimp only at g;cases o:isT (bAt s i) t
    ·rw[o,if_neg (by simp)]at g;rw[o]at f;try repeat' (refine KZ ?_)
     refine aZ 13 ([]) (by kernel_rfl) rfl (by exact bQ _) ?_;all_goals(refine DD 0 ?_;refine D1 1 ?_;refine D1 2 ?_;refine DD 3 ?_)
     all_goals(try(refine D7 4 ?_;(repeat' (refine KO ?_))))
     all_goals(refine DD 4 ?_;refine DD 5 ?_;refine D2 6 rfl (by exact U2 i) ?_;refine DD 7 ?_;refine D2 8 rfl (by exact U1 0) ?_;refine D2 9 rfl (by exact U4 z) ?_)
     all_goals(refine D3 10 ?_;refine D5 ?_;(with_reducible apply C1);exact rfl;exact EN;exact fun w μc hw p=>f w μc hw p.le;refine D9 ?_)
     all_goals(refine DD 11 ?_;refine DD 12 ?_;refine D8 ?_)
     all_goals
      try repeat' (refine KO ?_)
     all_goals exact aQ rfl rfl (congrArg _ g)
    ·rw[o,if_pos rfl]at g;rw[o]at f;try repeat' (refine KZ ?_)
     refine aZ 13 ([]) (by kernel_rfl) rfl (by exact bQ _) ?_;all_goals(refine DD 0 ?_;refine D1 1 ?_;refine D1 2 ?_;refine DD 3 ?_)
     all_goals(try(refine D7 4 ?_;(repeat' (refine KO ?_))))
     all_goals(refine DD 4 ?_;refine DD 5 ?_;refine D2 6 rfl (by exact U2 i) ?_;refine DD 7 ?_;refine D2 8 rfl (by exact U1 0) ?_;refine D2 9 rfl (by exact U4 z) ?_)
     all_goals(refine D3 10 ?_;refine D5 ?_;(with_reducible apply C1);exact rfl;exact EN;exact fun w μc hw p=>f w μc hw p.le;refine D9 ?_)
     all_goals(refine DD 11 ?_;refine DD 12 ?_;refine D8 ?_)
     all_goals
      try repeat' (first|refine KO ?_|(refine KV (b:=by((with_reducible apply lL 1);(iterate 5 exact rfl);omega)) (c:=?_))|refine KZ ?_)
     all_goals exact J2 (i+1,j+1,_,_) ⟨by show i+1≤s.size;omega,by show j+1≤n;omega,aa,g⟩ (by show s.size- (i+1)<s.size-i;omega)
   ·obtain rfl:j=n:=by omega
    have l:ks.drop j=[]:=cB (by omega);rw[l]at g;dsimp only at g;try repeat' (refine KZ ?_)
    refine aZ 13 ([]) (by kernel_rfl) rfl (by exact bQ _) ?_;all_goals(refine DD 0 ?_;refine D1 1 ?_;refine D1 2 ?_;refine DD 3 ?_)
    all_goals(try(refine D7 4 ?_;(repeat' (refine KO ?_))))
    all_goals(refine DD 4 ?_;refine DD 5 ?_;refine D1 6 ?_;refine DD 7 ?_;refine D1 8 ?_;refine D1 9 ?_;refine D3 10 (D6 ?_);refine DD 11 ?_;refine DD 12 ?_;refine D8 ?_)
    all_goals
     try repeat' (refine KZ ?_)
    all_goals exact aQ rfl rfl (congrArg _ g)
 ·obtain rfl:i=s.size:=by omega
  rw[cB (by rw[EJ];omega)]at g;have ba:decide (n-j=0)=R:=by rw[←g,←ar,←dA,MA]
  try repeat' (refine KZ ?_)
  refine aQ rfl rfl ?_;rw[←ba];congr 1;simp;try omega
end
end Go.Proofs.YtlllalmkkaolfaaGreatDoor
