/- Package scope: loop, walked. -/
import Derived.Test.YtlllalmkkaolfaaGreatDoorUap
set_option maxRecDepth 20000
set_option maxHeartbeats 2000000
namespace Go.Proofs.YtlllalmkkaolfaaGreatDoor
section
open Go.RowKit Go.Vcg Go.MapKept
def CU(N:T→Wh→FS→FS)(t:T)(ws:Int)(w1:Wh)(s:FS)(k:T×Nat):FS:=
 if k.2=1∧t.op≠10∧w1.scope≠ws then{ N k.1 w1 { s with heads:=iS w1.scope true s.heads }with heads:=tJ w1.scope (N k.1 w1 { s with heads:=iS w1.scope true s.heads }).heads }else N k.1 w1 s
theorem aJa(N:T→Wh→FS→FS)(t:T)(w:Wh)(s:FS):zS N t w s=(t.kids.zipIdx).foldl (CU N t w.scope (if(decide ((cQ t 0).op=2)&& !decide ((cQ t 0).n=0))=true then eF w (eM (cQ t 0) []) s else w)) (if(decide ((cQ t 0).op=2)&& !decide ((cQ t 0).n=0))=true then iJ 3 t.at' w (eM (cQ t 0) []) s else s):=rfl
theorem VP{β:Type}(G:β→T×Nat→β)(s:β){l:List T}{i:Nat}{k:T}(a:l[i]? =some k):((l.take (i+1)).zipIdx).foldl G s=G (((l.take i).zipIdx).foldl G s) (k,i):=by
 rw[cG,a,List.zipIdx_append,iK];have hlt:=(List.getElem?_eq_some_iff.1 a).1;simp[cM,jA (iO hlt)]
theorem aJx{G:FS→T×Nat→FS}(l:List T)(s:FS)(h:∀k∈l,∀i s,GrS (3*k.size) s (G s (k,i))):GrS (3*szs l) s (l.zipIdx.foldl G s):=by
 have g2:=tH G (fun k=>3*k.1.size) l.zipIdx s fun k hk s=>h k.1 (yA hk) k.2 s;rw[QB]at g2;exact g2
attribute [local irreducible] gM iS tJ iD findF qL fD pL jG CU iJ eF
attribute [local irreducible] jY dT eM bF dR dM anI jK iB G GC GQ GA eV Calls IntKind.wrap Int.decLt Int.decLe
theorem aAr(N:T→Wh→FS→FS)(t:T)(hq:dJ qS t)(bp:t.op=10∨t.op=11∨t.op=12)(bj:t.size≤2000)(hN:∀k,dJ qS k→k.size<t.size→NK N k∧NGs N k)(u:Value)(w0:Wh)(s:FS)(μ:Mem)(xb cb hb db:Nat)(hk:KR μ t.kids u)(hB:BS s t.size):
 PR 86 [.pointer (some ⟨xb,0,none⟩),.agg (cO t u).toArray,WV w0] xb cb hb db s (zS N t w0 s) μ (fun _=>True):=by
 intro w q hμ g hO;have ax:=dW hO.diff;have bk:=aS t;have br:=iG t.kids;have bs:1≤t.kids.length:=hq.here.1.kc.one (by omega);obtain⟨bd,bc⟩:=hB;obtain⟨A,c,rfl,hcap,ai⟩:=hk.form;obtain⟨d0,ab⟩:∃d,t.kids[0]? =some d:=⟨_,aA (by omega)⟩;obtain⟨ad,x0,e0,ar,bq,hx0⟩:=ai 0 d0 ab;cases e0;have ao:=hq.kid (aB ab);have bh:d0.size≤szs t.kids:=T.eL (List.mem_map.2 ⟨d0,aB ab,rfl⟩);have bu:=aS d0;have ag:∀k∈t.kids,k.size<t.size:=fun k hk=>by have:k.size≤szs t.kids:=T.eL (List.mem_map.2 ⟨k,hk,rfl⟩);omega
 obtain⟨ws,wf,wd⟩:=w0;generalize z:zS N t ⟨ws,wf,wd⟩ s=s';rw[aJa,jE ab]at z;have az:=oE d0 [];rw[bM]at az;have al:=fun(lv:Value) (μ:Mem) (h:s.scopes.length≤8000)=>BH 3 t.at' ⟨ws,wf,wd⟩ (eM d0 []) lv s μ xb cb hb db h;have gg:=vX (kind:=3) (at' :=t.at') (w:=⟨ws,wf,wd⟩) (l:=eM d0 []) s (by omega);have ae:s.scopes.length≤8000:=by unfold wtS at bd;omega
 generalize hc:(decide (d0.op=2)&& !decide (d0.n=0))=cc at z;obtain⟨s1,p⟩:∃y,(if cc=true then iJ 3 t.at' ⟨ws,wf,wd⟩ (eM d0 []) s else s)=y:=⟨_,rfl⟩;obtain⟨w1,r⟩:∃y,(if cc=true then eF ⟨ws,wf,wd⟩ (eM d0 []) s else⟨ws,wf,wd⟩)=y:=⟨_,rfl⟩;rw[p,r]at z;have g1:GrS 1 s s1:=by
  subst p;cases cc
  ·exact(GrS.refl s).mono (by omega)
  ·exact gg
 have bf:BS s1 (szs t.kids):=⟨by have:=g1.wt;omega,g1.nm bc⟩;have bb:∀i,GrS (3*szs (t.kids.take i)) s1 (((t.kids.take i).zipIdx).foldl (CU N t ws w1) s1):=fun i=>aJx _ _ fun k hk i s=>by
  have av:=(hN k (hq.kid (bE hk)) (ag k (bE hk))).2;unfold CU;dsimp only;split
  ·refine GrS.other (s1:=N k w1 { s with heads:=iS w1.scope true s.heads }) ?_ rfl rfl rfl;have ga:GrS 0 s { s with heads:=iS w1.scope true s.heads }:=(GrS.refl s).other rfl rfl rfl;exact(ga.trans (av _ _)).mono (by omega)
  ·exact av _ _
 refine cI Tryz.func86 rfl Tryz.ntmps86 (by simp) hμ hO ?_;try repeat' (first|((with_reducible show GC _ _ (Code.seq (Code.seq (Code.region 2 _ _) _) _) _ _ _ _);(apply dX))|refine KZ ?_|refine NB fun b=>?_)
 rename_i bn;obtain⟨bw,ay⟩:∃y,y=b:=⟨_,rfl⟩;rw[←ay];clear ay;refine gcs (iT (ι:=FW×Mem) (fun j=>FR' j.1 s1∧MLe μ j.2) (fun j=>j.2) (fun _=>[(6,.int .i64 ws),(5,.pointer (some ⟨bw,0,none⟩)),(4,.pointer (some ⟨bn,0,none⟩)),(0,.pointer (some ⟨xb,0,none⟩))]) (fun j=>.inl ⟨bw,85,3,idx 0 (CL w1)⟩::.inl ⟨bn,24,6,idx 0 (cO t (.slice (some ad) t.kids.length c))⟩::FB xb cb hb db s1 j.1) ?_ ?_)
 ·by_cases v:d0.op=2∧d0.n≠0
  ·have ecc:cc=true:=by rw[←hc];simp[v.1,v.2]
   subst ecc;rw[if_pos rfl]at p r;subst p r;have ak:=fun(μc:Mem) (hle:MLe μ μc)=>GX d0 x0 (.slice none 0 0) [] μc (hx0.mono hle) (ao.here.1.vn v.1) (ao.here.1.kc.sub v.1) (by omega) (by rw[bM];omega);try repeat' (first|refine KO ?_|(refine KV (b:=by first|exact U1 0|exact U4 ar) (c:=?_))|refine KZ ?_|refine NB fun b=>?_)
   all_goals
    refine aZ 8 _ (by kernel_rfl) rfl (aD (cP (aD aT))) ?_;all_goals(refine DD 0 ?_;refine DD 1 ?_;refine DD 2 ?_;refine DD 4 ?_)
    refine iZ 3 5 (by kernel_rfl) ?dr21_3 ?dr21_5
    case' dr21_3=>
     (((with_reducible apply jU);(iterate 4 exact rfl);(((with_reducible apply yZ);exact rfl;(repeat first|with_reducible exact fW|with_reducible apply pQ);exact rfl))))
     all_goals(refine D3 5 ?_;refine D5 ?_;(refine CF 62 ?_;refine sV 40 4 ?_;(with_reducible apply rI (bl:=([]:List Bd)) 0);(iterate 3 exact rfl);exact EN;exact rfl;exact ak _ (MLe.refl _);intro v5 μ5 ah;dsimp only[fT]);refine D9 ?_)
     all_goals(refine D3 6 ?_;refine D5 ?_;(refine CF 84 ?_;refine tY (eB (.refl _) (eB (.refl _) (eB (.refl _) (fH _)))) ?_;(with_reducible apply yU (bl:=eM d0 []) 3);(iterate 3 exact rfl);exact EN;exact rfl;exact g;exact al _ _ ae;rintro v1 μ1 i1 f g rfl;dsimp only[aU,aY]);refine D9 ?_)
     all_goals(refine D3 7 ?_;refine D5 ?_;refine Y0 ?_;refine D9 ?_;refine D8 ?_)
    case' dr21_5=>
     (refine D5 ?_;(refine CF 62 ?_;refine sV 40 4 ?_;(with_reducible apply rI (bl:=([]:List Bd)) 0);(iterate 3 exact rfl);exact EN;exact rfl;exact ak _ (MLe.refl _);intro v5 μ5 ah;dsimp only[fT]);refine D9 ?_)
     all_goals(refine D3 3 ?_;(with_reducible apply jU);(iterate 4 exact rfl);(((with_reducible apply yZ);exact rfl;(repeat first|with_reducible exact fW|with_reducible apply pQ);exact rfl)))
     all_goals(refine D3 6 ?_;refine D5 ?_;(refine CF 84 ?_;refine tY (eB (.refl _) (eB (.refl _) (eB (.refl _) (fH _)))) ?_;(with_reducible apply yU (bl:=eM d0 []) 3);(iterate 3 exact rfl);exact EN;exact rfl;exact g;exact al _ _ ae;rintro v1 μ1 i1 f g rfl;dsimp only[aU,aY]);refine D9 ?_)
     all_goals(refine D3 7 ?_;refine D5 ?_;refine Y0 ?_;refine D9 ?_;refine D8 ?_)
   all_goals exact fJ (i1,_) ⟨g,ah.trans f⟩ rfl PU (by repeat first|exact bY _ (fH _)|(refine eB ?_ ?_;focus(refine kZ.cells ?_;repeat first|exact gC|refine eS rfl ?_)))
  ·have ecc:cc=false:=by
    rw[←hc];by_cases h2:d0.op=2
    ·have:d0.n=0:=by
      by_cases h:d0.n=0
      ·exact h
      ·exact absurd ⟨h2,h⟩ v
     simp[this]
    ·simp[h2]
   subst ecc;rw[if_neg (by simp)]at p r;subst p r;try repeat' (first|refine KO ?_|(refine KV (b:=by first|exact U1 0|exact U4 ar) (c:=?_))|refine KZ ?_|refine NB fun b=>?_|(refine KB ?_ ?_<;>intro hp))
   all_goals exact fJ (q,_) ⟨g,MLe.refl _⟩ rfl PU (by repeat exact bY _ (fH _))
 rintro⟨q1,μ1⟩ ⟨g,f⟩;dsimp only at g f⊢;try repeat' (refine KZ ?_)
 refine cD (ι:=Nat×Mem×FW) (fun j=>j.1≤t.kids.length∧MLe μ j.2.1∧FR' j.2.2 (((t.kids.take j.1).zipIdx).foldl (CU N t ws w1) s1)) (fun j=>t.kids.length-j.1) (fun j=>j.2.1) (fun j=>[(35,.int .i64 (j.1:Int)),(34,.int .i64 (t.kids.length:Int)),(33,.slice (some ad) t.kids.length c),(6,.int .i64 ws),(5,.pointer (some ⟨bw,0,none⟩)),(4,.pointer (some ⟨bn,0,none⟩)),(0,.pointer (some ⟨xb,0,none⟩))]) (fun j=>.inl ⟨bw,85,3,idx 0 (CL w1)⟩::.inl ⟨bn,24,6,idx 0 (cO t (.slice (some ad) t.kids.length c))⟩::FB xb cb hb db (((t.kids.take j.1).zipIdx).foldl (CU N t ws w1) s1) j.2.2) (0,μ1,q1) ⟨aN _,f,g⟩ (fun a w hs=>hs.sel PU (by repeat exact fH _)) ?_;rintro⟨i,μ0,q0⟩ ⟨hi,hle,g⟩;dsimp only at hi hle g⊢;by_cases hlt:i<t.kids.length
 ·obtain⟨k,aa⟩:∃k,t.kids[i]? =some k:=⟨_,aA hlt⟩;obtain⟨ad5,x,e5,a7,bo,au⟩:=ai i k aa;cases e5;have aq:=a7.mono hle;have af:=aB aa;obtain⟨ap,-⟩:=hN k (hq.kid af) (ag k af);have bm:=kK aa;have aj:=BS.gr (bf.mono (m:=szs (t.kids.take i)+k.size) (by omega)) (bb i);have e:=VP (CU N t ws w1) s1 aa;generalize ((t.kids.take i).zipIdx).foldl (CU N t ws w1) s1=st at g aj e⊢;have ba:CU N t ws w1 st (k,i)=(if i=1∧t.op≠10∧w1.scope≠ws then{ N k w1 { st with heads:=iS w1.scope true st.heads }with heads:=tJ w1.scope (N k w1 { st with heads:=iS w1.scope true st.heads }).heads }else N k w1 st):=by unfold CU;rfl
  rw[ba]at e;by_cases hh:i=1∧t.op≠10∧w1.scope≠ws
  ·rw[if_pos hh]at e;obtain⟨bt,bg,bi⟩:=hh;obtain⟨es',ck',a1,an⟩:=aPz (P:=Tryz.prog) (enc:=ZO) (t:=56) (kt:=3) (et:=4) (by kernel_rfl) (by kernel_rfl) w1.scope (by exact rfl) true g.hd q0.hc;have o:=ap xb cb hb db x w1 { st with heads:=iS w1.scope true st.heads } _ (au.mono hle) (aj.other rfl rfl rfl);refine lT (congrArg (List.cons _) (congrArg (List.cons _) (mK xb cb hb db st q0))) ?_;try repeat' (first|refine KO ?_|(refine KV (b:=by first|exact U1 i|exact U4 aq) (c:=?_))|refine KZ ?_|refine NB fun b=>?_)
   refine aZ 7 _ (by kernel_rfl) rfl (aD (aD (aD (aD (aD (aD (aD (cP aT)))))))) ?_;all_goals(refine DD 0 ?_;refine DD 1 ?_;refine DD 2 ?_;refine DD 3 ?_;refine DD 4 ?_;refine DD 5 ?_)
   all_goals(refine D3 6 ?_;refine D5 ?_;(with_reducible apply aB6 (kv:=.int .i64 w1.scope));(iterate 4 exact rfl);(repeat first|with_reducible exact uL|with_reducible apply wD);exact an;refine D9 ?_)
   all_goals refine D8 ?_
   try repeat' (first|((with_reducible show GC _ _ (Code.seq (Code.region 11 _ _) _) _ _ _ _);(apply dX))|refine KZ ?_)
   refine gcs (lT (L' :=_::_::_::FB xb cb hb db { st with heads:=iS w1.scope true st.heads } { q0 with he:=es',hc:=ck' }) rfl ?_);have g:FR' { q0 with he:=es',hc:=ck' } { st with heads:=iS w1.scope true st.heads }:=⟨g.sc,g.ca,a1,g.dn⟩;try repeat' (first|refine KO ?_|(refine CF 65 ?_;refine tI 3 rfl rfl rfl EN rfl g (o) ?_;rintro v1 μ1 i1 f g-;dsimp only[aU,aY])|refine KZ ?_)
   generalize N k w1 { st with heads:=iS w1.scope true st.heads }=s5 at g e⊢;obtain⟨es2,a6,aw⟩:=aUx (P:=Tryz.prog) (enc:=ZO) (t:=56) (kt:=3) (et:=4) (by kernel_rfl) (by kernel_rfl) w1.scope (by exact rfl) g.hd i1.hc;refine lT (congrArg (List.cons _) (congrArg (List.cons _) (congrArg (List.cons _) (mK xb cb hb db s5 i1)))) ?_;refine aZ 7 _ (by kernel_rfl) rfl (aD (aD (aD (aD (aD (aD (aD (cP aT)))))))) ?_;all_goals(refine DD 0 ?_;refine DD 1 ?_;refine DD 2 ?_;refine DD 3 ?_;refine DD 4 ?_;refine DD 5 ?_)
   all_goals(refine D3 6 ?_;refine D5 ?_;(with_reducible apply aSa);(iterate 3 exact rfl);(repeat first|with_reducible exact uL|with_reducible apply wD);exact aw _;refine D9 ?_)
   all_goals refine D8 ?_
   all_goals try repeat' (refine KZ ?_)
   all_goals exact cY (i+1,μ1,{ i1 with he:=es2 }) ⟨by dsimp only;omega,hle.trans f,by dsimp only;rw[e];exact⟨g.sc,g.ca,a6,g.dn⟩⟩ (by dsimp only;omega) rfl PU (by dsimp only;rw[e,mK];exact(by repeat exact bY _ (fH _)))
  ·rw[if_neg hh]at e;have o:=ap xb cb hb db x w1 st _ (au.mono hle) aj;rw[←e]at o;try repeat' (first|refine KO ?_|(refine CF 65 ?_;refine tI 3 rfl rfl rfl EN rfl g (o) ?_;(rintro v1 μ1 i1 f g-);(dsimp only[aU,aY]))|(refine KV (b:=by first|exact U1 i|exact U4 aq) (c:=?_))|refine KZ ?_|refine NB fun b=>?_|(refine KB ?_ ?_<;>intro hp))
   all_goals exact cY (i+1,μ1,i1) ⟨by dsimp only;omega,hle.trans f,g⟩ (by dsimp only;omega) rfl PU (by repeat exact bY _ (fH _))
 ·have a8:i=t.kids.length:=by omega
  subst a8;rw[aK (aC _)]at g⊢;try repeat' (refine KZ ?_)
  all_goals exact nT 2 q0 (by exact .inr rfl) ax rfl rfl z g
end
section
open Go.RowKit Go.Vcg Go.MapKept
def sY(N:T→Wh→FS→FS)(ws:Int)(w1:Wh)(s:FS)(k:T×Nat):FS:=N k.1 w1 (if w1.scope≠ws then{ s with cases:=iS w1.scope (k.2:Int) s.cases }else s)
def wA(t:T):List Bd:=(t.kids.drop 1).foldl (fun l k=>bF k.kids true l) []
theorem aCr(N:T→Wh→FS→FS)(t:T)(w:Wh)(s:FS):rN N t w s=((t.kids.drop 1).zipIdx).foldl (sY N w.scope (eF w (wA t) s)) (N (cQ t 0) w (iJ 2 t.at' w (wA t) s)):=rfl
attribute [local irreducible] gM iS tJ iD findF qL fD pL jG iJ eF sY
attribute [local irreducible] jY dT eM bF dR dM anI jK iB G GC GQ GA eV Calls IntKind.wrap Int.decLt Int.decLe
theorem TJ(N:T→Wh→FS→FS)(t:T)(hq:dJ qS t)(bt:t.op=21)(br:t.size≤2000)(hN:∀k,dJ qS k→k.size<t.size→NK N k∧NGs N k)(u:Value)(w0:Wh)(s:FS)(μ:Mem)(xb cb hb db:Nat)(hk:KR μ t.kids u)(hB:BS s t.size):
 PR 85 [.pointer (some ⟨xb,0,none⟩),.agg (cO t u).toArray,WV w0] xb cb hb db s (rN N t w0 s) μ (fun _=>True):=by
 intro w q hμ o hO;have az:=dW hO.diff;have bs:=aS t;have ax:1≤t.kids.length:=hq.here.1.kc.one (by omega);have ba:=JX ax;obtain⟨bp,bo⟩:=hB;obtain⟨A,c,rfl,hcap,ay⟩:=hk.form;obtain⟨d0,ai⟩:∃d,t.kids[0]? =some d:=⟨_,aA (by omega)⟩;obtain⟨ad,x0,e0,z,bu,hx0⟩:=ay 0 d0 ai;cases e0;have bc:=hq.kid (aB ai);have ak:∀k∈t.kids,k.size<t.size:=fun k hk=>by have:k.size≤szs t.kids:=T.eL (List.mem_map.2 ⟨k,hk,rfl⟩);omega
 rw[jE ai]at ba;have a7:=hN d0 bc (by omega);have bj:=hk.DA ax;have b0:(t.kids.drop 1).length=t.kids.length-1:=dA;have bx:=iG (t.kids.drop 1);obtain⟨A2,c2,e2,bm,aa⟩:=bj.form;obtain⟨ws,wf,wd⟩:=w0;generalize p:rN N t ⟨ws,wf,wd⟩ s=s';rw[aCr,jE ai]at p;dsimp only at p;have bq:(wA t).length≤szs (t.kids.drop 1):=by
  have h2:=oW (fun l (k:T)=>bF k.kids true l) T.size (t.kids.drop 1) [] fun k _ a=>by have h3:=jO k.kids true a;have h4:=aS k;omega
  have h5:((t.kids.drop 1).map T.size).sum=szs (t.kids.drop 1):=rfl;rw[h5,bM,bG]at h2;exact h2
 refine cI Tryz.func85 rfl Tryz.ntmps85 (by simp) hμ hO ?_;refine oN 40 4 ?_;try repeat' (first|refine KO ?_|(refine KV (b:=by((with_reducible apply lL 1);(iterate 4 exact rfl);omega;omega)) (c:=?_))|refine KZ ?_|refine NB fun b=>?_)
 rename_i bn;obtain⟨bw,a1⟩:∃y,y=b:=⟨_,rfl⟩;rw[←a1];clear a1;rw[e2];refine cD (ι:=Nat×Value×Mem) (fun j=>j.1≤(t.kids.drop 1).length∧MLe μ j.2.2) (fun j=>(t.kids.drop 1).length-j.1) (fun j=>j.2.2) (fun j=>[(17,.int .i64 (j.1:Int)),(16,.int .i64 ((t.kids.length-1:Nat):Int)),(15,.slice A2 (t.kids.drop 1).length c2),(6,j.2.1),(5,.pointer (some ⟨bw,0,none⟩)),(4,.pointer (some ⟨bn,0,none⟩)),(0,.pointer (some ⟨xb,0,none⟩))]) (fun j=>.inl ⟨bw,85,3,idx 0 (CL ⟨ws,wf,wd⟩)⟩::.inl ⟨bn,24,6,idx 0 (cO t (.slice (some ad) t.kids.length c))⟩::mF j.2.1 (((t.kids.drop 1).take j.1).foldl (fun l k=>bF k.kids true l) [])::FB xb cb hb db s q) (0,.slice none 0 0,μ) ⟨aN _,MLe.refl _⟩ (fun a w hs=>hs.sel PU (fH _)) ?_;rintro⟨i,v,μi⟩ ⟨hi,hle⟩;dsimp only at hi hle⊢;by_cases hlt:i< (t.kids.drop 1).length
 ·obtain⟨d,ah⟩:∃d,(t.kids.drop 1)[i]? =some d:=⟨_,aA hlt⟩;obtain⟨ad5,x,e5,an,bd,af⟩:=aa i d ah;subst e5;have ae:=an.mono hle;have r:=cU (aB ah);have bb:=kK ah;have bz:=aS d;have a6:(((t.kids.drop 1).take i).foldl (fun l k=>bF k.kids true l) []).length≤szs ((t.kids.drop 1).take i):=by
   have h2:=oW (fun l (k:T)=>bF k.kids true l) T.size ((t.kids.drop 1).take i) [] fun k _ a=>by have h3:=jO k.kids true a;have h4:=aS k;omega
   rw[bM,bG]at h2;exact h2
  have e:=lM (fun l (k:T)=>bF k.kids true l) (l:=[]) ah;generalize ((t.kids.drop 1).take i).foldl (fun l k=>bF k.kids true l) []=acc at a6 e⊢;try repeat' (first|refine KO ?_|(refine CF 40 ?_;(with_reducible apply rI 3);(iterate 3 exact rfl);exact EN;exact rfl;(exact xR d.kids true x _ acc _ (af.mono hle) (fun k hk=>((hq.kid r).kid hk).here.1) (by omega) (by omega));(intro v4 μ4 aw);(dsimp only[fT]))|(refine KV (b:=by first|exact U1 i|exact U4 ae) (c:=?_))|refine KZ ?_|refine NB fun b=>?_)
  all_goals exact cY (i+1,v4,μ4) ⟨by dsimp only;omega,hle.trans aw⟩ (by dsimp only;omega) rfl PU (by dsimp only;rw[e];exact(by repeat exact bY _ (fH _)))
 have ao:i=(t.kids.drop 1).length:=by omega
 subst ao;rw[aK (aC _)];have bk:(t.kids.drop 1).foldl (fun l k=>bF k.kids true l) []=wA t:=rfl;rw[bk];have ab:=fun(lv:Value) (μ:Mem) (h:s.scopes.length≤8000)=>BH 2 t.at' ⟨ws,wf,wd⟩ (wA t) lv s μ xb cb hb db h;have gg:=vX (kind:=2) (at' :=t.at') (w:=⟨ws,wf,wd⟩) (l:=wA t) s (by omega);have ap:s.scopes.length≤8000:=by unfold wtS at bp;omega
 have aj:BS (iJ 2 t.at' ⟨ws,wf,wd⟩ (wA t) s) (d0.size+szs (t.kids.drop 1)):=⟨by have:=gg.wt;omega,gg.nm bo⟩;generalize wA t=bl at ab p aj⊢;generalize iJ 2 t.at' ⟨ws,wf,wd⟩ bl s=s1 at ab p aj;generalize eF ⟨ws,wf,wd⟩ bl s=w1 at ab p;have z:=z.mono hle;have a8:=BS.gr aj (a7.2 ⟨ws,wf,wd⟩ s1);try repeat' (refine KZ ?_)
 refine aZ 6 _ (by kernel_rfl) rfl (aD aT) ?_;all_goals(refine DD 0 ?_;refine DD 1 ?_;refine DD 2 ?_;refine D3 3 ?_;refine D5 ?_;refine NB fun b=>?_;refine D9 ?_;refine DD 4 ?_;refine D3 5 ?_;refine D5 ?_;refine Y0 ?_;refine D9 ?_;refine D8 ?_)
 try repeat' (first|refine KO ?_|(refine CF 84 ?_;(with_reducible apply yU (bl:=bl) 3);(iterate 3 exact rfl);exact EN;exact rfl;exact o;exact ab _ _ ap;rintro v1 μ1 i1 f o rfl;dsimp only[aU,aY])|refine KZ ?_)
 have z:=z.mono f;refine aZ 7 _ (by kernel_rfl) rfl (aD (aD (aD aT))) ?_;all_goals(refine DD 0 ?_;refine D1 1 ?_;refine DD 2 ?_;refine D2 3 rfl (by exact U1 0) ?_;refine D2 4 rfl (by exact U4 z) ?_;refine DD 5 ?_)
 all_goals(refine D3 6 ?_;refine D5 ?_;refine CF 65 ?_;refine tI 3 rfl rfl rfl EN rfl o (a7.1 xb cb hb db _ ⟨ws,wf,wd⟩ s1 _ (hx0.mono (hle.trans f)) (aj.mono (by omega))) ?_;rintro v6 μ6 i6 av o-;dsimp only[aU,aY];refine D9 ?_)
 all_goals refine D8 ?_
 generalize N d0 ⟨ws,wf,wd⟩ s1=s2 at o p a8;have au:=(hle.trans f).trans av;have bi:∀i,GrS (3*szs ((t.kids.drop 1).take i)) s2 ((((t.kids.drop 1).take i).zipIdx).foldl (sY N ws w1) s2):=fun i=>aJx _ _ fun k hk i s=>by
  have hm:=cU (bE hk);have bg:=(hN k (hq.kid hm) (ak k hm)).2;unfold sY;have ga:GrS 0 s (if w1.scope≠ws then{ s with cases:=iS w1.scope (i:Int) s.cases }else s):=by
   split
   ·exact(GrS.refl s).other rfl rfl rfl
   ·exact GrS.refl s
  exact(ga.trans (bg _ _)).mono (by omega)
 try repeat' (first|refine KO ?_|(refine KV (b:=by((with_reducible apply lL 1);(iterate 4 exact rfl);omega;omega)) (c:=?_))|refine KZ ?_)
 rw[e2];refine cD (ι:=Nat×Mem×FW) (fun j=>j.1≤(t.kids.drop 1).length∧MLe μ j.2.1∧FR' j.2.2 ((((t.kids.drop 1).take j.1).zipIdx).foldl (sY N ws w1) s2)) (fun j=>(t.kids.drop 1).length-j.1) (fun j=>j.2.1) (fun j=>[(46,.int .i64 (j.1:Int)),(45,.int .i64 ((t.kids.length-1:Nat):Int)),(44,.slice A2 (t.kids.drop 1).length c2),(9,.int .i64 ws),(5,.pointer (some ⟨bw,0,none⟩)),(0,.pointer (some ⟨xb,0,none⟩))]) (fun j=>.inl ⟨bw,85,3,idx 0 (CL w1)⟩::FB xb cb hb db ((((t.kids.drop 1).take j.1).zipIdx).foldl (sY N ws w1) s2) j.2.2) (0,_,i6) ⟨aN _,au,o⟩ (fun a w hs=>hs.sel PU (by repeat first|exact bY _ (bY _ (fH _))|(refine eB ?_ ?_;focus(refine kZ.cells ?_;repeat first|exact gC|refine eS rfl ?_)))) ?_;rintro⟨i,μ0,q0⟩ ⟨hi,hle,o⟩;dsimp only at hi hle o⊢;by_cases hlt:i< (t.kids.drop 1).length
 ·obtain⟨k,ag⟩:∃k,(t.kids.drop 1)[i]? =some k:=⟨_,aA hlt⟩;obtain⟨ad5,x,e5,an,bd,af⟩:=aa i k ag;subst e5;have ae:=an.mono hle;have r:=cU (aB ag);obtain⟨ar,-⟩:=hN k (hq.kid r) (ak k r);have bb:=kK ag;have al:=BS.gr (a8.mono (m:=szs ((t.kids.drop 1).take i)+k.size) (by omega)) (bi i);have e:=VP (sY N ws w1) s2 ag;generalize (((t.kids.drop 1).take i).zipIdx).foldl (sY N ws w1) s2=st at o al e⊢;have bh:sY N ws w1 st (k,i)=N k w1 (if w1.scope≠ws then{ st with cases:=iS w1.scope (i:Int) st.cases }else st):=by unfold sY;rfl
  rw[bh]at e;by_cases hh:w1.scope≠ws
  ·rw[if_pos hh]at e;obtain⟨es',ck',bf,aq⟩:=aPz (P:=Tryz.prog) (enc:=aEj) (t:=55) (kt:=3) (et:=3) (by kernel_rfl) (by kernel_rfl) w1.scope (by exact rfl) (i:Int) o.ca q0.cc;have g:=ar xb cb hb db x w1 { st with cases:=iS w1.scope (i:Int) st.cases } _ (af.mono hle) (al.other rfl rfl rfl);rw[←e]at g;refine lT (congrArg (List.cons _) (mK xb cb hb db st q0)) ?_;try repeat' (first|refine KO ?_|(refine KV (b:=by first|exact U1 i|exact U4 ae) (c:=?_))|refine KZ ?_|refine NB fun b=>?_)
   refine aZ 8 _ (by kernel_rfl) rfl (aD (aD (aD (aD (aD (cP aT)))))) ?_;all_goals(refine DD 0 ?_;refine DD 1 ?_;refine DD 2 ?_;refine DD 3 ?_;refine DD 4 ?_;refine DD 5 ?_;refine DD 6 ?_)
   all_goals(refine D3 7 ?_;refine D5 ?_;(with_reducible apply aB6 (kv:=.int .i64 w1.scope));(iterate 4 exact rfl);(repeat first|with_reducible exact uL|with_reducible apply wD);exact aq;refine D9 ?_)
   all_goals refine D8 ?_
   try repeat' (first|((with_reducible show GC _ _ (Code.region 15 _ _) _ _ _ _);(apply dX))|refine KZ ?_)
   refine gcs (lT (L' :=_::_::FB xb cb hb db { st with cases:=iS w1.scope (i:Int) st.cases } { q0 with ce:=es',cc:=ck' }) rfl ?_);have o:FR' { q0 with ce:=es',cc:=ck' } { st with cases:=iS w1.scope (i:Int) st.cases }:=⟨o.sc,bf,o.hd,o.dn⟩;try repeat' (first|refine KO ?_|(refine CF 65 ?_;refine tI 2 rfl rfl rfl EN rfl o (g) ?_;rintro v1 μ1 i1 f o-;dsimp only[aU,aY])|refine KZ ?_)
   all_goals exact cY (i+1,μ1,i1) ⟨by dsimp only;omega,hle.trans f,o⟩ (by dsimp only;omega) rfl PU (by repeat exact bY _ (fH _))
  ·rw[if_neg hh]at e;have g:=ar xb cb hb db x w1 st _ (af.mono hle) al;rw[←e]at g;try repeat' (first|refine KO ?_|(refine CF 65 ?_;refine tI 2 rfl rfl rfl EN rfl o (g) ?_;(rintro v1 μ1 i1 f o-);(dsimp only[aU,aY]))|(refine KV (b:=by first|exact U1 i|exact U4 ae) (c:=?_))|refine KZ ?_|refine NB fun b=>?_)
   all_goals exact cY (i+1,μ1,i1) ⟨by dsimp only;omega,hle.trans f,o⟩ (by dsimp only;omega) rfl PU (by repeat exact bY _ (fH _))
 ·have ao:i=(t.kids.drop 1).length:=by omega
  subst ao;rw[aK (aC _)]at o⊢;try repeat' (refine KZ ?_)
  all_goals exact nT 1 q0 (by exact .inr rfl) az rfl rfl p o
end
section
open Go.RowKit Go.Vcg Go.MapKept
attribute [local irreducible] gM iS tJ iD findF qL fD pL jG iJ eF HV zS rN AS uQ
attribute [local irreducible] jY dT eM bF dR dM anI jK iB G GC GQ GA eV Calls IntKind.wrap Int.decLt Int.decLe
theorem aAq(N:T→Wh→FS→FS)(fu:Nat)(t:T)(hq:dJ qS t)(ae:t.size≤2000)(bj:t.size≤fu)(hN:∀k,dJ qS k→k.size<t.size→NK N k∧NGs N k):NK (yS N fu) t:=by
 intro xb cb hb db u w0 s μ hk hB;intro w q hμ f hO;have g:=dW hO.diff;have ou:=hk.one;have bq:=aS t;obtain⟨af,bp,bu⟩:=hB.sc;have ag:=hB.2;have p:=hk;have ah:∀k∈t.kids,k.size<t.size:=fun k hk=>by have:k.size≤szs t.kids:=T.eL (List.mem_map.2 ⟨k,hk,rfl⟩);omega
 have an:∀k∈t.kids,NK N k∧NGs N k:=fun k hk=>hN k (hq.kid hk) (ah k hk);obtain⟨A,c,rfl,hcap,ai⟩:=hk.form;obtain⟨ws,wf,wd⟩:=w0;generalize e:yS N fu t ⟨ws,wf,wd⟩ s=s';unfold yS at e;dsimp only at e;have bz:=hB.1;refine cI Tryz.func65 rfl Tryz.ntmps65 (by simp) hμ hO ?_;by_cases a8:t.op=34
 ·rw[if_pos a8]at e;try repeat' (first|refine KO ?_|(refine CF 82 ?_;refine tI 2 rfl rfl rfl EN rfl f (QQ t _ ⟨ws,wf,wd⟩ s _ xb cb hb db ou af ag (by omega)) ?_;rintro v1 μ1 i1 i f-;dsimp only[aU,aY])|refine KZ ?_|refine NB fun b=>?_)
  all_goals exact nT 2 i1 (by exact .inr rfl) g rfl rfl e f
 rw[if_neg a8]at e;by_cases h4:t.op=4
 ·rw[if_pos h4]at e;try repeat' (first|refine KO ?_|(refine CF 83 ?_;refine tI 2 rfl rfl rfl EN rfl f (aFf N fu t hq h4 ae bj hN _ ⟨ws,wf,false⟩ s _ xb cb hb db p hB) ?_;rintro v1 μ1 i1 i f-;dsimp only[aU,aY])|refine KZ ?_|refine NB fun b=>?_)
  all_goals exact nT 2 i1 (by exact .inr rfl) g rfl rfl e f
 rw[if_neg h4]at e;by_cases h6:t.op=6
 ·rw[if_pos h6]at e;have ba:=jO t.kids true [];rw[bM,bG]at ba;have aa:=fun(μc:Mem) (hle:MLe μ μc)=>xR t.kids true _ (.slice none 0 0) [] μc (p.mono hle) (fun k hk=>(hq.kid hk).here.1) (by omega) (by rw[bM];omega);have o:=fun(lv:Value) (μ:Mem) (h:s.scopes.length≤8000)=>BH 2 t.at' ⟨ws,wf,wd⟩ (bF t.kids true []) lv s μ xb cb hb db h;have gg:=vX (kind:=2) (at' :=t.at') (w:=⟨ws,wf,wd⟩) (l:=bF t.kids true []) s (by omega);have v:BS (iJ 2 t.at' ⟨ws,wf,wd⟩ (bF t.kids true []) s) (szs t.kids):=⟨by have:=gg.wt;omega,gg.nm ag⟩;generalize bF t.kids true []=bl at o e v aa;generalize iJ 2 t.at' ⟨ws,wf,wd⟩ bl s=s1 at o e v;generalize eF ⟨ws,wf,wd⟩ bl s=w1 at o e;try repeat' (first|refine KZ ?_|refine NB fun b=>?_)
  refine aZ 12 _ (by kernel_rfl) rfl (aD (aD aT)) ?_;all_goals(refine DD 0 ?_;refine DD 1 ?_;refine DD 2 ?_;refine DD 3 ?_;refine DD 4 ?_;refine DD 5 ?_;refine DD 6 ?_;refine DD 7 ?_;refine DD 8 ?_)
  all_goals(refine D3 9 ?_;refine D5 ?_;(refine CF 40 ?_;refine sV 40 4 ?_;(with_reducible apply rI (bl:=([]:List Bd)) 0);(iterate 3 exact rfl);exact EN;exact rfl;exact aa _ (MLe.refl _);intro v5 μ5 ax;dsimp only[fT]);refine D9 ?_)
  all_goals(refine D3 10 ?_;refine D5 ?_;(refine CF 84 ?_;refine tY (eB (.refl _) (eB (.refl _) (fH _))) ?_;(with_reducible apply yU (bl:=bl) 2);(iterate 3 exact rfl);exact EN;exact rfl;exact f;exact o _ _ af;rintro v6 μ6 i6 ab f rfl;dsimp only[aU,aY]);refine D9 ?_)
  all_goals(refine D3 11 ?_;refine D5 ?_;(refine CF 41 ?_;refine tI 2 rfl rfl rfl EN rfl f (uD N t.kids _ w1 s1 _ xb cb hb db an ((p.mono ax).mono ab) v) ?_;rintro v7 μ7 i7 aw f-;dsimp only[aU,aY]);refine D9 ?_)
  all_goals refine D8 ?_
  all_goals try repeat' (refine KZ ?_)
  all_goals exact nT 2 i7 (by exact .inr rfl) g rfl rfl e f
 rw[if_neg h6]at e;by_cases ap:t.op=21
 ·rw[if_pos ap]at e;try repeat' (first|refine KO ?_|(refine CF 85 ?_;refine tI 2 rfl rfl rfl EN rfl f (TJ N t hq ap ae hN _ ⟨ws,wf,wd⟩ s _ xb cb hb db p hB) ?_;rintro v1 μ1 i1 i f-;dsimp only[aU,aY])|refine KZ ?_|refine NB fun b=>?_)
  all_goals exact nT 2 i1 (by exact .inr rfl) g rfl rfl e f
 rw[if_neg ap]at e;by_cases r:t.op=10∨t.op=11∨t.op=12
 ·rw[if_pos r]at e;have av:=aAr N t hq r ae hN _ ⟨ws,wf,wd⟩ s μ xb cb hb db p hB;rw[e]at av;rcases r with al|al|al
  all_goals try repeat' (first|refine KO ?_|(refine CF 86 ?_;refine tI 2 rfl rfl rfl EN rfl f (av) ?_;rintro v1 μ1 i1 i f-;dsimp only[aU,aY])|refine KZ ?_|refine NB fun b=>?_)
  all_goals exact nT 2 i1 (by exact .inr rfl) g rfl rfl rfl f
 rw[if_neg r]at e;have al:t.op≠10:=fun h=>r (.inl h);have bt:t.op≠11:=fun h=>r (.inr (.inl h));have bs:t.op≠12:=fun h=>r (.inr (.inr h));by_cases aq:t.op=20
 ·rw[if_pos aq]at e;have bg:2≤t.kids.length:=hq.here.1.kc.two (.inr (.inl aq));obtain⟨d0,z⟩:∃d,t.kids[0]? =some d:=⟨_,aA (by omega)⟩;obtain⟨ad,x0,e0,ak,au,hx0⟩:=ai 0 d0 z;cases e0;rw[jE z]at e;have bo:=ah d0 (aB z);have br:=kQ d0;have a6:=oI 5 (bB d0) [];rw[bM,bG]at a6;have bc:=fun w μc hw (hle:MLe μ μc)=>xZ d0 w μc x0 hw (hx0.mono hle) (by omega);refine oN 40 4 ?_;try repeat' (first|refine KO ?_|((with_reducible apply C3);exact rfl;exact EN;(exact fun w μc hw bb=>bc w μc hw bb.le);intro v2;(with_reducible apply fI 0);exact rfl;rintro A2 c2 rfl bm)|(refine KV (b:=by first|exact U1 0|exact U4 ak) (c:=?_))|refine KZ ?_|refine NB fun b=>?_)
  rename_i bn;obtain⟨bw,a1⟩:∃y,y=b:=⟨_,rfl⟩;rw[←a1];clear a1;refine qN rfl ?_;intro μ2 az ar;have bk:=SsV.nH (xs:=bB d0) ar rfl rfl;obtain⟨A3,c3,e3,hS,bx⟩:=bk;cases e3;refine cD (ι:=Nat×Value×Mem) (fun j=>j.1≤(bB d0).length∧MLe μ2 j.2.2) (fun j=>(bB d0).length-j.1) (fun j=>j.2.2) (fun j=>[(64,.int .i64 (j.1:Int)),(63,.int .i64 ((bB d0).length:Int)),(62,.slice A2 (bB d0).length c2),(6,j.2.1),(5,.pointer (some ⟨bw,0,none⟩)),(4,.pointer (some ⟨bn,0,none⟩)),(0,.pointer (some ⟨xb,0,none⟩))]) (fun j=>.inl ⟨bw,85,3,idx 0 (CL ⟨ws,wf,wd⟩)⟩::.inl ⟨bn,24,6,idx 0 (cO t (.slice (some ad) t.kids.length c))⟩::mF j.2.1 (dT 5 ((bB d0).take j.1) [])::FB xb cb hb db s q) (0,.slice none 0 0,μ2) ⟨aN _,MLe.refl _⟩ (fun a w hs=>hs.sel PU (by rw[jW,CH];exact fH _)) ?_;rintro⟨j,v3,μ3⟩ ⟨hj,x⟩;dsimp only at hj x⊢;by_cases bh:j< (bB d0).length
  ·obtain⟨ad3,y,rfl,hy,bf⟩:=hS.get bh;have bd:=bf.mono x;have aa:=yN (k:=5) (l:=[]) hy;have a7:=oI 5 ((bB d0).take j) [];rw[cM,bM]at a7;generalize dT 5 ((bB d0).take j) []=acc2 at aa a7⊢;try repeat' (first|refine KO ?_|(refine CF 64 ?_;(with_reducible apply rI 2);(iterate 3 exact rfl);exact EN;exact rfl;(exact GU acc2 _ y 5 _ (by omega));(intro v4 μ4 ay);(dsimp only[fT]))|(refine KV (b:=by first|exact U1 j|exact U3 (bd.at 0 rfl)) (c:=?_))|refine KZ ?_)
   all_goals rw[←aa]
   all_goals exact cY (j+1,v4,μ4) ⟨by dsimp only;omega,x.trans ay⟩ (by dsimp only;omega) rfl PU (fH _)
  have bi:j=(bB d0).length:=by omega
  subst bi;rw[aK (aC _)];have o:=fun(lv:Value) (μ:Mem) (h:s.scopes.length≤8000)=>BH 4 t.at' ⟨ws,wf,wd⟩ (dT 5 (bB d0) []) lv s μ xb cb hb db h;have gg:=vX (kind:=4) (at' :=t.at') (w:=⟨ws,wf,wd⟩) (l:=dT 5 (bB d0) []) s (by omega);have v:BS (iJ 4 t.at' ⟨ws,wf,wd⟩ (dT 5 (bB d0) []) s) (szs t.kids):=⟨by have:=gg.wt;omega,gg.nm ag⟩;generalize dT 5 (bB d0) []=bl at o e v⊢;generalize iJ 4 t.at' ⟨ws,wf,wd⟩ bl s=s1 at o e v;generalize eF ⟨ws,wf,wd⟩ bl s=w1 at o e;try repeat' (refine KZ ?_)
  refine aZ 10 _ (by kernel_rfl) rfl (aD (aD aT)) ?_;all_goals(refine DD 0 ?_;refine DD 1 ?_;refine DD 2 ?_;refine DD 3 ?_;refine DD 4 ?_;refine DD 5 ?_;refine DD 6 ?_;refine DD 7 ?_)
  all_goals(refine D3 8 ?_;refine D5 ?_;(refine CF 84 ?_;(with_reducible apply yU (bl:=bl) 2);(iterate 3 exact rfl);exact EN;exact rfl;exact f;exact o _ _ af;rintro v6 μ6 i6 ab f rfl;dsimp only[aU,aY]);refine D9 ?_)
  all_goals(refine D3 9 ?_;refine D5 ?_;(refine CF 41 ?_;refine tI 2 rfl rfl rfl EN rfl f (uD N t.kids _ w1 s1 _ xb cb hb db an (((p.mono az).mono x).mono ab) v) ?_;rintro v7 μ7 i7 aw f-;dsimp only[aU,aY]);refine D9 ?_)
  all_goals refine D8 ?_
  all_goals try repeat' (refine KZ ?_)
  all_goals exact nT 2 i7 (by exact .inr rfl) g rfl rfl e f
 rw[if_neg aq]at e;by_cases h3:t.op=3
 ·rw[if_pos h3]at e;try repeat' (first|refine KO ?_|(refine CF 87 ?_;refine tI 2 rfl rfl rfl EN rfl f (aAw N t hq h3 ae hN _ ⟨ws,wf,wd⟩ s _ xb cb hb db p hB) ?_;rintro v1 μ1 i1 i f-;dsimp only[aU,aY])|refine KZ ?_|refine NB fun b=>?_)
  all_goals exact nT 2 i1 (by exact .inr rfl) g rfl rfl e f
 rw[if_neg h3]at e;by_cases ao:t.op=39
 ·rw[if_pos ao]at e;by_cases aj:t.n=3
  ·rw[if_pos aj]at e;have bg:=hq.here.1.kc.one (.inr (.inr (.inr (.inr (.inr (.inr (.inr ⟨ao,aj⟩)))))));obtain⟨d0,z⟩:∃d,t.kids[0]? =some d:=⟨_,aA (by omega)⟩;obtain⟨ad,x0,e0,ak,au,hx0⟩:=ai 0 d0 z;cases e0;rw[jE z]at e;try repeat' (first|refine KZ ?_|refine NB fun b=>?_)
   refine aZ 7 _ (by kernel_rfl) rfl (aD (aD aT)) ?_;all_goals(refine DD 0 ?_;refine D1 1 ?_;refine DD 2 ?_;refine D2 3 rfl (by exact U1 0) ?_;refine D2 4 rfl (by exact U4 ak) ?_;refine DD 5 ?_)
   all_goals(refine D3 6 ?_;refine D5 ?_;refine CF 82 ?_;refine tI 2 rfl rfl rfl EN rfl f (QQ d0 _ ⟨ws,wf,wd⟩ s _ xb cb hb db au af ag (by omega)) ?_;rintro v1 μ1 i1 i f-;dsimp only[aU,aY];refine D9 ?_)
   all_goals refine D8 ?_
   all_goals try repeat' (refine KZ ?_)
   all_goals exact nT 2 i1 (by exact .inl rfl) g rfl rfl e f
  ·rw[if_neg aj]at e;try repeat' (first|refine KO ?_|(refine CF 41 ?_;refine tI 2 rfl rfl rfl EN rfl f (uD N t.kids _ ⟨ws,wf,wd⟩ s _ xb cb hb db an p (hB.mono (by omega))) ?_;rintro v1 μ1 i1 i f-;dsimp only[aU,aY])|refine KZ ?_|refine NB fun b=>?_)
   all_goals exact nT 2 i1 (by exact .inr rfl) g rfl rfl e f
 rw[if_neg ao]at e;try repeat' (first|refine KO ?_|(refine CF 88 ?_;refine tI 2 rfl rfl rfl EN rfl f (WC N t hq hN _ ⟨ws,wf,wd⟩ s _ xb cb hb db p hB) ?_;rintro v1 μ1 i1 i f-;dsimp only[aU,aY])|refine KZ ?_|refine NB fun b=>?_)
 all_goals exact nT 2 i1 (by exact .inr rfl) g rfl rfl e f
end
section
open Go.RowKit Go.Vcg Go.MapKept
theorem YB{t:T}{d:Nat}{s:Bool}(h:Rt t d s):Ks t:=by
 refine⟨aP6 h,fun h3=>?_,fun h2=>?_⟩
 ·cases h with
  | mk hd hn hk hr=>
    unfold bD stB at hk;simp[h3]at hk;exact CA hk
 ·cases h with
  | mk hd hn hk hr=>
    obtain⟨-,hf,-⟩:=hn;unfold nV at hf;split at hf
    ·cases hf
    ·rw[if_neg (by omega)]at hf;simp only[aM,decide_eq_true_eq]at hf;have hm:lB t.op=2:=by rw[h2];simp[lB]
     rw[hm]at hf;omega
theorem xO(t:T):∀(d:Nat) (s:Bool),Rt t d s→Sh t→dJ qS t:=T.aBy (p:=fun t=>∀(d:Nat) (s:Bool),Rt t d s→Sh t→dJ qS t) (fun t ih d s h hs=>by
 refine .mk ⟨YB h,by have:=PG hs;omega⟩ fun k hk=>?_;obtain⟨i,hi⟩:=List.mem_iff_getElem?.1 hk;cases h with
 |mk _ _ _ hr=>exact ih k hk _ _ (hr i k hi) (wE hs hk)) t
theorem aDb(fu:Nat):∀(f:Nat) (t:T),dJ qS t→t.size≤f→t.size≤fu→t.size≤2000→NK (nbS fu f) t
 | 0,t,_,h,_,_=>by have:=aS t;omega
 |f+1,t,hq,hf,b,a=>aAq (nbS fu f) fu t hq a b fun k hk h=>⟨aDb fu f k hk (by omega) (by omega) (by omega),NN fu f k hk (by omega)⟩
end
section
open Go.RowKit Go.Vcg
def nk(b:Bd):ByteArray×Int:=(b.name,b.kind)
def mJ(l l' :List Sc):Prop:=l.length=l'.length∧∀(i:Nat) (c c' :Sc),l[i]? =some c→l'[i]? =some c' →c'.up=c.up∧c'.fn=c.fn∧c'.names.map nk=c.names.map nk
theorem mJ.refl(l:List Sc):mJ l l:=⟨rfl,fun i c c' h a=>by rw[h]at a;cases a;exact⟨rfl,rfl,rfl⟩⟩
theorem mJ.trans{a b c:List Sc}(h:mJ a b)(g:mJ b c):mJ a c:=⟨h.1.trans g.1,fun i x z f j=>by
 obtain⟨y,e⟩:∃y,b[i]? =some y:=⟨_,aA (by have:=(List.getElem?_eq_some_iff.1 f).1;rw[←h.1];exact this)⟩;obtain⟨h1,h2,h3⟩:=h.2 i x y f e;obtain⟨h4,h5,h6⟩:=g.2 i y z e j;exact⟨h4.trans h1,h5.trans h2,h6.trans h3⟩⟩
theorem QN{x:ByteArray}:∀{l l' :List Bd} {k:Nat},l'.map nk=l.map nk→gP x l' k=gP x l k
 |[],[],_,_=>rfl
 |[],_::_,_,h=>by simp at h
 |_::_,[],_,h=>by simp at h
 | a::r,b::r',k,h=>by simp only[aL,jB]at h;have h1:b.name=a.name:=congrArg Prod.fst h.1;unfold gP;rw[h1,QN h.2]
theorem NY{l l' :List Sc}{x:ByteArray}(h:mJ l l'):∀(f:Nat) (at' :Int),findF l' x f at' =findF l x f at'
 |0,_=>rfl
 | f+1,at' =>by
   by_cases h0:0≤at' ∧at' <l.length
   ·obtain⟨c,hc⟩:∃c,l[at'.toNat]? =some c:=⟨_,aA (by omega)⟩;obtain⟨c',a⟩:∃c',l'[at'.toNat]? =some c' :=⟨_,aA (by rw[←h.1];omega)⟩;obtain⟨h1,h2,h3⟩:=h.2 _ c c' hc a;rw[mY h0 hc,mY (l:=l') (by rw[←h.1];exact h0) a,QN h3,h1,NY h f c.up]
   ·rw[oH h0,oH (by rw[←h.1];exact h0)]
theorem xE{l l' :List Sc}(h:mJ l l')(at' :Int)(x:ByteArray):iD l' at' x=iD l at' x:=NY h _ at'
theorem WL{l:List Sc}(a:Nat)(g:Sc→Sc)(hg:∀c,(g c).up=c.up∧(g c).fn=c.fn∧(g c).names.map nk=c.names.map nk):mJ l (l.modify a g):=by
 refine⟨by rw[List.length_modify],fun i c c' h b=>?_⟩;rw[kF,h]at b;split at b
 ·cases b;exact hg c
 ·cases b;exact⟨rfl,rfl,rfl⟩
theorem PJ(l:List Bd)(b:Nat):(l.modify b fun x=>{ x with held:=true }).map nk=l.map nk:=by
 apply eP;intro i;rw[aX,aX,kF];cases l[i]? with
 |none=>simp
 |some y=>simp only[fC];split<;>rfl
theorem HD(l:List Sc)(a b:Nat):mJ l (CW l a b):=WL a _ fun c=>⟨rfl,rfl,PJ c.names b⟩
theorem BI:∀(us:List Ux) (l:List Sc),mJ l (AA us l)
 |[],l=>mJ.refl l
 | u::r,l=>by
   unfold AA;rw[bX];split
   ·exact(HD l u.ts u.tb).trans (BI r _)
   ·exact BI r l
theorem MU:∀(l:List Bd) (h c:Nat),(lP h c l).map nk=l.map nk
 |[],_,_=>rfl
 | b::r,h,c=>by
   unfold lP;split
   ·simp only[aL,MU r];rfl
   ·simp only[aL,MU r];rfl
theorem HP:∀(l pre:List Sc) (j:Nat),(qY pre l)[j]? =(l[j]?).map (CK (pre++l.take j))
 |[],_,_=>by simp[qY]
 |s::r,pre,0=>by simp[qY]
 | s::r,pre,j+1=>by rw[qY,bW,bW,HP r (pre++[s]) j];simp
theorem aIg(l:List Sc):mJ l (qY [] l):=by
 refine⟨(IQ l []).symm,fun i c c' h a=>?_⟩;rw[HP,h]at a;cases a;exact⟨rfl,rfl,MU _ _ _⟩
def qZ(s:FS):List Sc:=qY [] (AA s.uses s.scopes)
theorem zC(s:FS):mJ s.scopes (qZ s):=(BI _ _).trans (aIg _)
def sN(l:List Sc)(a b:Nat):Bd:=(((l[a]?).bind fun c=>c.names[b]?)).getD ⟨⟨#[]⟩,0,false,0⟩
def mH(l:List Sc):Nat→Int→Int→Nat
 |0,_,_=>0
 | f+1,a,b=>if a=b then 0 else match l[a.toNat]? with
   |none=>0
   |some c=>(if 0<iN c.names then 1 else 0)+mH l f c.up b
def tO(l:List Sc)(x:Ux):Us:=
 if x.found=true then
  let b:=sN l x.ts x.tb
  if b.held=true then{ x.u with wh:=1,slot:=b.slot,hops:=(mH l (x.u.scope.toNat+1) x.u.scope x.ts:Nat) }else{ x.u with wh:=0,slot:=b.slot }
 else x.u
inductive kN (l:List Sc) (b:Nat):Int→Prop
 |here:kN l b b
 |up {a:Int} {c:Sc} (h0:0≤a) (hc:l[a.toNat]? =some c) (hlt:c.up<a) (hne:a≠b) (h:kN l b c.up):kN l b a
theorem kN.uS{l:List Sc}{b:Nat}{a:Int}(h:kN l b a):0≤a∧(b:Int)≤a:=by
 induction h with
 |here=>exact⟨by omega,mV _⟩
 |up h0 _ hlt _ _ ih=>exact⟨h0,by omega⟩
theorem tK{l:List Sc}{x:ByteArray}:∀{f:Nat} {at' :Int} {a b:Nat},findF l x f at' =some (a,b)→kN l a at'
 |0,_,_,_,h=>by cases h
 | f + 1,at',a,b,h=>by
   by_cases h0:0≤at' ∧at' <l.length
   ·obtain⟨c,hc⟩:∃c,l[at'.toNat]? =some c:=⟨_,aA (by omega)⟩;rw[mY h0 hc]at h;cases g:gP x c.names 0 with
    | some k=>
      rw[g]at h;cases h;have e:at' =((at'.toNat:Nat):Int):=by omega
      rw[e];exact kN.here
    | none=>
      rw[g]at h;dsimp only at h;split at h
      ·cases h
      ·have h2:=tK h;have h3:=h2.uS;exact kN.up h0.1 hc (by omega) (by omega) h2
   ·rw[oH h0]at h;cases h
theorem aBz{l:List Sc}{b:Nat}{a:Int}(h:kN l b a):∀(f g:Nat),a<f→a<g→mH l f a b=mH l g a b:=by
 induction h with
 | here=>
   intro f g hf hg;cases f with
   |zero=>omega
   | succ f=>
     cases g with
     |zero=>omega
     |succ g=>unfold mH;rw[if_pos rfl,if_pos rfl]
 | @up a c h0 hc hlt hne h ih=>
   intro f g hf hg;cases f with
   |zero=>omega
   | succ f=>
     cases g with
     |zero=>omega
     | succ g=>
       unfold mH;rw[if_neg hne,if_neg hne,hc];dsimp only;rw[ih f g (by omega) (by omega)]
open Go.MapKept
theorem MD{P:Program}{μ:Mem}{l:bS}{L:List Bk}{w:World}{fn:Func}{n:Nat}{rs:List ResultVar}{vs:List Value}{μ0:Mem}{M:List Nat}{ι:Type}{Ls:ι→List Bk}{Post:Mem→Value→ι→Prop}{L' Lr:List Bk}(k:Nat)(i:ι)(f:∀D,M.count D≤1)(hr:fn.results=rs.toArray)(h:RVs P μ l L rs vs)(hl:Nat.beq vs.length 1=false)(hL:splitB k L=some (L',Lr))(b:Ls i=L')
 (c:∀μ',MLe μ μ' →Post μ' (.tuple vs.toArray) i):
 GQ ⟨w,μ0,M,n⟩ (bodyPost P fn (fun e w' =>∃v μ' i,e=.returned v∧mW M w w' μ0 (Ls i) μ' ∧Post μ' v i)) .ret μ l L:=fun a w' hs=>by
 have he:=qQ hL;subst he;obtain⟨μ',hb,hle⟩:=hs.NP;subst b;exact⟨hs.defers.none f,.tuple vs.toArray,WS hr h hl hs.rd,.tuple vs.toArray,μ',i,rfl,hb,c μ' hle⟩
def wK(f:Nat)(t:T):FS:={ gS f t with scopes:=qZ (gS f t) }
def fLs(sE:FS):Option (Nat×Nat×Nat×Nat×FW)→List Bk
 |none=>[]
 |some i=>FB i.1 i.2.1 i.2.2.1 i.2.2.2.1 sE i.2.2.2.2
def aEf(sR sE:FS)(v:Value):Option (Nat×Nat×Nat×Nat×FW)→Prop
 |none=>4096<fQ sR.scopes∧v=.tuple #[.pointer none,.int .i64 9]
 |some i=>¬4096<fQ sR.scopes∧v=.tuple #[.pointer (some ⟨i.1,0,none⟩),.int .i64 0]∧FR' i.2.2.2.2 sE
theorem MW{α:Type}{f:α→α}{l:List α}{i:Nat}{x:α}(h:l[i]? =some x):l.modify i f=l.set i (f x):=by
 apply eP;intro k;rw[kF,jX];by_cases hk:i=k
 ·subst hk;have hlt:=(List.getElem?_eq_some_iff.1 h).1;rw[if_pos rfl,if_pos hlt,h];simp
 ·rw[if_neg hk];cases l[k]? <;>simp[hk]
theorem aPp{cs:List (Sc×Value)}{a:Nat}{c c2:Sc}{v:Value}(h:cs[a]? =some (c,v))(he:fF (c2,v)=fF (c,v)):(cs.set a (c2,v)).flatMap fF=cs.flatMap fF:=by
 have:=oZ (enc:=fF) (s:=5) (fun _=>rfl) (vs:=[]) (k:=0) (n:=0) (y:=(c2,v)) (by omega) cs a (c,v) h (by rw[he];simp);rw[←this,eD,bZ,dN]
theorem ZH(cs:List (Sc×Value))(a:Nat)(c2:Sc)(v:Value):jK (cs.set a (c2,v))=(jK cs).set a (v,c2.names):=by unfold jK;rw[jS]
theorem aGt(us:List Ux)(l:List Sc){j:Nat}{x:Ux}(h:us[j]? =some x):AA (us.take (j+1)) l=if x.found=true∧x.fn≠oB (AA (us.take j) l) x.ts then CW (AA (us.take j) l) x.ts x.tb else AA (us.take j) l:=by
 unfold AA;exact lM (fun l u=>if u.found=true∧u.fn≠oB l u.ts then CW l u.ts u.tb else l) h
theorem YT{cs:List (Sc×Value)}{a k:Nat}{c:Sc}{v:Value}{d:Bd}(h:cs[a]? =some (c,v))(hd:c.names[k]? =some d):CW (scs cs) a k=scs (cs.set a ({ c with names:=c.names.set k { d with held:=true } },v)):=by
 unfold CW;rw[MW (mE h)];dsimp only;rw[MW hd];unfold scs;rw[jS]
def MR(cs:List (Sc×Value)):List (Sc×Value):=cs.zipIdx.map fun p=>(CK ((scs cs).take p.2) p.1.1,p.1.2)
theorem XL(cs:List (Sc×Value))(j:Nat):(MR cs)[j]? =(cs[j]?).map fun c=>(CK ((scs cs).take j) c.1,c.2):=by
 unfold MR;rw[aX,List.getElem?_zipIdx];cases cs[j]? <;>simp
theorem XK(cs:List (Sc×Value)):(MR cs).length=cs.length:=by unfold MR;simp
theorem aI3(cs:List (Sc×Value)):scs (MR cs)=qY [] (scs cs):=by
 apply eP;intro j;rw[HP,aY];show((MR cs).map (·.1))[j]? =((cs.map (·.1))[j]?).map _
 rw[aX,XL,aX];cases cs[j]? <;>rfl
theorem aFs(cs:List (Sc×Value)):(MR cs).flatMap fF=cs.flatMap fF:=by
 unfold MR;rw[List.flatMap_map];have e:(fun p:(Sc×Value)×Nat=>fF (CK ((scs cs).take p.2) p.1.1,p.1.2))=fun p=>fF p.1:=rfl;rw[e]
 conv=>rhs;rw[←List.zipIdx_map_fst 0 cs]
 rw[List.flatMap_map]
theorem aOm{cs:List (Sc×Value)}{i:List Fm}(h:aC4 (scs cs) (jK cs) (scs cs).length i):i=jK (MR cs):=by
 apply eP;intro j;cases a:cs[j]? with
 | none=>
   have h1:=List.getElem?_eq_none_iff.1 a;rw[dQ (by rw[h.1,AK];exact h1),dQ (by rw[AK,XK];exact h1)]
 | some c=>
   have hlt:=(List.getElem?_eq_some_iff.1 a).1;rw[h.2 j _ c.1 (uV a) (mE a),if_pos (by rw[kV];exact hlt),uV (c:=(CK ((scs cs).take j) c.1,c.2)) (by rw[XL,a];rfl)]
theorem aMw(f:Nat)(t:T):1≤(gS f t).scopes.length:=by
 have h0:SI ⟨[],[],0,[],[],[]⟩:=⟨fun i c h=>by simp at h,fun x a=>by simp at a⟩;obtain⟨g,hw⟩:=FU (kind:=0) (at' :=t.at') (w:=⟨-1,0,false⟩) (l:=bF t.kids false []) h0 ⟨mV _,by simp⟩;have h1:=(DU (aJ3 f f) t.kids (w:=⟨0,0,false⟩) (s:=mL t) hw g.si).pre.length_le;have h2:(mL t).scopes.length=1:=rfl;rw[h2]at h1;exact h1
def s00:FS:=⟨[],[],0,[],[],[]⟩
def q00:FW:=⟨.slice none 0 0,.slice none 0 0,[],[],[],[],0,0,0⟩
theorem aU1(xb cb hb db:Nat):FB xb cb hb db s00 q00=[.inl ⟨xb,59,6,[(0,.slice none 0 0),(1,.slice none 0 0),(2,.int .i64 0),(3,.map (some cb)),(4,.map (some hb)),(5,.map (some db))]⟩,.inr ⟨.slice none 0 0,43,5,0,[]⟩,.inr ⟨.slice none 0 0,63,12,0,[]⟩,.mp ⟨cb,[],0⟩,.mp ⟨hb,[],0⟩,.mp ⟨db,[],0⟩]:=rfl
theorem HB(t:T):mL t=kL 0 t.at' ⟨-1,0,false⟩ (bF t.kids false []) s00:=rfl
attribute [local irreducible] gM iS tJ iD findF qL fD pL jG nbS kL rtB
attribute [local irreducible] jY dT eM bF dR dM anI jK iB G GC GQ GA eV Calls IntKind.wrap Int.decLt Int.decLe
theorem aG1(f:Nat)(t:T)(u:Value)(w:World)(μ:Mem)(hμ:MOk μ w)(hO:Go.Vcg.Own μ [] w)(hk:KR μ t.kids u)(cg:t.size≤2000)(hf:t.size≤f)(a7:Sh t)(hT:sO μ)(b8:t.op=1)(a8:rtB t 1 false=true):
 Calls Tryz.prog 21 #[.agg (cO t u).toArray] w fun e w' =>∃(v:Value) (μ' :Mem) (i:Option (Nat×Nat×Nat×Nat×FW)),e=.returned v∧mW (lH []) w w' μ (fLs (wK f t) i) μ' ∧aEf (gS f t) (wK f t) v i:=by
 have aq:=dW hO.diff;generalize ag:wK f t=sE;unfold wK at ag;have ou:=hk.one;have ch:=aS t;have hq:=xO t 1 false (iL a8) a7;have ba:=fun w μc hw (hle:MLe μ μc)=>zA t _ w μc hw (hk.mono hle) (by omega) a7 (hT.mono hle);rw[a8]at ba;have bf:=hk;obtain⟨A,c,rfl,hcap,cf⟩:=hk.form;have bj:∀k∈t.kids,NK (nbS f f) k∧NGs (nbS f f) k:=fun k hk=>by have h1:k.size≤szs t.kids:=T.eL (List.mem_map.2 ⟨k,hk,rfl⟩);exact⟨aDb f f k (hq.kid hk) (by omega) (by omega) (by omega),NN f f k (hq.kid hk) (by omega)⟩
 have bp:=jO t.kids false [];rw[bM,bG]at bp;have aj:=fun(μc:Mem) (hle:MLe μ μc)=>xR t.kids false _ (.slice none 0 0) [] μc (bf.mono hle) (fun k hk=>(hq.kid hk).here.1) (by omega) (by rw[bM];omega);have au:=fun(lv:Value) (μ:Mem) (xb cb hb db:Nat) (h:s00.scopes.length≤8000)=>BN 0 t.at' ⟨-1,0,false⟩ (bF t.kids false []) lv s00 μ xb cb hb db h;have bg:=vY (kind:=0) (at' :=t.at') (w:=⟨-1,0,false⟩) (l:=bF t.kids false []) s00 (by omega);have bm:BS (mL t) (szs t.kids):=by rw[HB];refine⟨?_,bg.nm (fun c hc=>by cases hc)⟩;have h1:=bg.wt;have h2:wtS s00=0:=rfl;omega
 have al:gS f t=vM (nbS f f) t.kids ⟨0,0,false⟩ (mL t):=rfl;refine cI Tryz.func21 rfl Tryz.ntmps21 (by simp) hμ hO ?_;try repeat' (first|((with_reducible show GC _ _ (Code.seq (Code.region 4 _ _) _) _ _ _ _);(apply dX))|refine KO ?_|refine K2 38 ba ?_|refine KZ ?_|refine NB fun b=>?_|((with_reducible apply UN);exact rfl;exact rfl;intro b))
 rename_i bn cb hb db;obtain⟨xb,ay⟩:∃y,y=b:=⟨_,rfl⟩;rw[←ay];clear ay;refine gcs (oN 63 12 (oN 43 5 ?_));refine AG (L' :=.inl ⟨bn,24,6,idx 0 (cO t (.slice A t.kids.length c))⟩::FB xb cb hb db s00 q00) (by rw[aU1];exact PS) ?_;have z:FR' q00 s00:=aVb;refine iT (ι:=Nat×FW×Mem) (fun j=>FR' j.2.1 (mL t)∧MLe μ j.2.2) (fun j=>j.2.2) (fun j=>[(5,.pointer (some ⟨j.1,0,none⟩)),(4,.pointer (some ⟨xb,0,none⟩)),(1,.pointer (some ⟨bn,0,none⟩))]) (fun j=>.inl ⟨j.1,85,3,idx 0 (CL ⟨0,0,false⟩)⟩::.inl ⟨bn,24,6,idx 0 (cO t (.slice A t.kids.length c))⟩::FB xb cb hb db (mL t) j.2.1) ?_ ?_
 ·refine aZ 10 _ (by kernel_rfl) rfl (aD aT) ?_;all_goals(refine DD 0 ?_;refine DD 1 ?_;refine DD 2 ?_;refine DD 3 ?_;refine DD 4 ?_;refine DD 5 ?_)
  refine iZ 6 8 (by kernel_rfl) ?dr22_6 ?dr22_8
  case' dr22_6=>
   (refine D5 ?_;(refine CF 40 ?_;refine sV 40 4 ?_;(with_reducible apply rI (bl:=([]:List Bd)) 0);(iterate 3 exact rfl);exact EN;exact rfl;exact aj _ (MLe.refl _);intro v5 μ5 ao;dsimp only[fT]);refine D9 ?_)
   refine iZ 7 8 (by kernel_rfl) ?dr23_7 ?dr23_8
   case' dr23_7=>
    (refine D5 ?_;(refine CF 39 ?_;refine tY (eB (.refl _) (fH _)) ?_;(with_reducible apply yU (bl:=bF t.kids false []) 1);(iterate 3 exact rfl);exact EN;exact rfl;exact z;exact au _ _ xb cb hb db (by simp[s00]);rintro v6 μ6 i6 af z rfl;dsimp only[aU,aY]);refine D9 ?_)
    all_goals(refine D3 8 ?_;refine D5 ?_;refine NB fun b=>?_;refine D9 ?_;refine D3 9 ?_;refine D5 ?_;refine Y0 ?_;refine D9 ?_;refine D8 ?_)
   case' dr23_8=>
    (refine D5 ?_;refine NB fun b=>?_;refine D9 ?_)
    all_goals(refine D3 7 ?_;refine D5 ?_;(refine CF 39 ?_;refine tY (fA (.refl _) (eB (.refl _) (fH _))) ?_;(with_reducible apply yU (bl:=bF t.kids false []) 2);(iterate 3 exact rfl);exact EN;exact rfl;exact z;exact au _ _ xb cb hb db (by simp[s00]);rintro v6 μ6 i6 af z rfl;dsimp only[aU,aY]);refine D9 ?_)
    all_goals(refine D3 9 ?_;refine D5 ?_;refine Y0 ?_;refine D9 ?_;refine D8 ?_)
  case' dr22_8=>
   (refine D5 ?_;refine NB fun b=>?_;refine D9 ?_)
   all_goals(refine D3 6 ?_;refine D5 ?_;(refine CF 40 ?_;refine sV 40 4 ?_;(with_reducible apply rI (bl:=([]:List Bd)) 0);(iterate 3 exact rfl);exact EN;exact rfl;exact aj _ (MLe.refl _);intro v5 μ5 ao;dsimp only[fT]);refine D9 ?_)
   all_goals(refine D3 7 ?_;refine D5 ?_;(refine CF 39 ?_;refine tY (eB (.refl _) (eB (.refl _) (fH _))) ?_;(with_reducible apply yU (bl:=bF t.kids false []) 2);(iterate 3 exact rfl);exact EN;exact rfl;exact z;exact au _ _ xb cb hb db (by simp[s00]);rintro v6 μ6 i6 af z rfl;dsimp only[aU,aY]);refine D9 ?_)
   all_goals(refine D3 9 ?_;refine D5 ?_;refine Y0 ?_;refine D9 ?_;refine D8 ?_)
  all_goals exact fJ (b,i6,_) ⟨z,ao.trans af⟩ rfl PU (by repeat first|exact fH _|(refine fA ?_ ?_;focus(refine kZ.cells ?_;repeat first|exact gC|refine eS rfl ?_)))
 rintro⟨bw,q1,μ1⟩ ⟨z,ap⟩;dsimp only at z ap⊢;have ad:=uD (nbS f f) t.kids _ ⟨0,0,false⟩ (mL t) μ1 xb cb hb db bj (bf.mono ap) bm;rw[←al]at ad;try repeat' (first|((with_reducible show GC _ _ (Code.seq (Code.region 6 _ _) _) _ _ _ _);(apply dX))|refine KO ?_|(refine CF 41 ?_;refine tI 2 rfl rfl rfl EN rfl z (ad) ?_;rintro v2 μ2 i2 cd z-;dsimp only[aU,aY])|refine KZ ?_)
 have a6:SI (gS f t):=aA0 f t;have bq:=aMw f t;have bh:=sW (N:=nbS f f) t.kids (fun k hk=>(bj k hk).2) ⟨0,0,false⟩ (mL t);rw[←al]at bh;have ai:BS (gS f t) 0:=BS.gr bm bh;generalize gS f t=sR at z a6 ai ag bq⊢;obtain⟨sv,uv,cs,ce,he,de,qc,qh,qd⟩:=i2;refine gcs (AG (L' :=FB xb cb hb db sR ⟨sv,uv,cs,ce,he,de,qc,qh,qd⟩) (bY _ (bY _ (fH _))) ?_);refine lT (mK xb cb hb db sR _) ?_;have hlen:=z.len;obtain⟨b7,b6,-⟩:=ai.sc;have q:=z.sc;dsimp only at hlen q⊢;have bs:∀(i:Nat) (y:Sc×Value),cs[i]? =some y→y.1.names.length≤10000000:=fun i y h=>ai.2 y.1 (by rw[←q];exact fG (aB h));refine gT 1 rfl ?_;rintro As cas rfl ab
 have a1:∀i,fQ ((scs cs).take i)≤10000000*i:=fun i=>by
  induction i with
  |zero=>simp[fQ]
  | succ i ih=>
    cases hi:(scs cs)[i]? with
    | none=>
      rw[aK (by have:=List.getElem?_eq_none_iff.1 hi;omega)]at ih⊢;omega
    | some y=>
      have hy:y.names.length≤10000000:=ai.2 y (by rw[←q];exact aB hi);unfold fQ at ih⊢;rw[cG,hi,bJ,kM,nA,aL,iR,dY,List.sum_nil];omega
 try repeat' (refine KZ ?_)
 refine cD (ι:=Nat) (fun j=>j≤cs.length) (fun j=>cs.length-j) (fun _=>μ2) (fun j=>[(42,.int .i64 (j:Int)),(41,.int .i64 (cs.length:Int)),(40,.slice As cs.length cas),(6,.int .i64 (fQ ((scs cs).take j):Int)),(4,.pointer (some ⟨xb,0,none⟩))]) (fun _=>FB xb cb hb db sR ⟨.slice As cs.length cas,uv,cs,ce,he,de,qc,qh,qd⟩) 0 (aN _) (fun a w hs=>hs.sel PU (fH _)) ?_;rintro i hi;by_cases hlt:i<cs.length
 ·obtain⟨cc,p⟩:∃cc,cs[i]? =some cc:=⟨_,aA hlt⟩;obtain⟨c',v⟩:=cc;have o:=AL (uV p);have bt:=bs i _ p;have ck:=a1 i;have cj:fQ ((scs cs).take (i+1))=fQ ((scs cs).take i)+c'.names.length:=by unfold fQ;rw[cG,mE p,bJ,kM,nA,aL,iR,dY,List.sum_nil,bZ]
  rcases ab.form with⟨-,h0,-⟩|⟨gs,rfl⟩
  ·exfalso;omega
  refine lT (mK xb cb hb db sR _) ?_;dsimp only at o bt⊢;refine rH (lG (F:=[_,_,_,_,_,_]) o) ?_;dsimp only[aU,aY,GG];refine gT 0 rfl ?_;rintro A4 c4 ar an;subst ar;refine rH (lG (F:=[_,_,_,_,_,_]) o).symm ?_;dsimp only[aU,aY];have hcell:∀(j:Nat) (y:Value),(fF (c',Value.slice A4 c'.names.length c4))[j]? =some y→(cs.flatMap fF)[i*5+j]? =some y:=fun j y hy=>Go.Vcg.lQ (enc:=fF) (s:=5) (fun _=>rfl) p j y hy;try repeat' (first|refine KO ?_|(refine KV (b:=by first|exact U1 i|((with_reducible apply tA (vs:=fF (c',Value.slice A4 c'.names.length c4)) 1);(iterate 5 exact rfl);exact hcell)) (c:=?_))|refine KZ ?_|refine NB fun b=>?_)
  all_goals rw[show((fQ ((scs cs).take i):Nat):Int)+ (c'.names.length:Int)=((fQ ((scs cs).take (i+1)):Nat):Int)by omega]
  all_goals exact cY (i+1) (by omega) (by omega) rfl PU (by rw[mK];exact(by repeat exact bY _ (fH _)))
 ·have b0:i=cs.length:=by omega
  subst b0;rw[aK (by rw[kV];omega),q];by_cases h4:4096<fQ sR.scopes
  ·try repeat' (refine KZ ?_)
   all_goals exact MD (Ls:=fLs sE) (Post:=fun _ v i=>aEf sR sE v i) 0 none aq rfl (by repeat first|exact kW|refine jD (by exact cX rfl) ?_) rfl rfl rfl (fun _ _=>⟨h4,rfl⟩)
  ·refine lT (mK xb cb hb db sR _) ?_;dsimp only;refine gT 2 rfl ?_;rintro Au cau rfl bb;try repeat' (refine KZ ?_)
   refine cD (ι:=Nat×List (Sc×Value)) (fun j=>j.1≤sR.uses.length∧scs j.2=AA (sR.uses.take j.1) sR.scopes) (fun j=>sR.uses.length-j.1) (fun _=>μ2) (fun j=>[(59,.int .i64 (j.1:Int)),(58,.int .i64 (sR.uses.length:Int)),(57,.slice Au sR.uses.length cau),(4,.pointer (some ⟨xb,0,none⟩))]) (fun j=>FB xb cb hb db sR ⟨.slice As j.2.length cas,.slice Au sR.uses.length cau,j.2,ce,he,de,qc,qh,qd⟩) (0,cs) ⟨aN _,q⟩ (fun a w hs=>hs.sel PU (by rw[mK];exact(by repeat exact fH _))) ?_;rintro⟨j,cs'⟩ ⟨hj,r⟩;dsimp only at hj r⊢;have aa:=BI (sR.uses.take j) sR.scopes;rw[←r]at aa;have ae:cs'.length=sR.scopes.length:=by rw[←kV];exact aa.1.symm
   by_cases bx:j<sR.uses.length
   ·obtain⟨x,hx⟩:∃x,sR.uses[j]? =some x:=⟨_,aA bx⟩;have br:=a6.uses x (aB hx);have g:=aGt sR.uses sR.scopes hx;rw[←r]at g;have ax:∀(k:Nat) (y:Value),(xJ x)[k]? =some y→(sR.uses.flatMap xJ)[j*12+k]? =some y:=fun k y hy=>Go.Vcg.lQ (enc:=xJ) (s:=12) (fun _=>rfl) hx k y hy;rcases bb.form with⟨-,h0,-⟩|⟨gu,rfl⟩
    ·exfalso;omega
    obtain⟨u9,ts,tb,found,fn⟩:=x;cases found with
    | false=>
      rw[if_neg (by simp)]at g;refine lT (mK xb cb hb db sR _) ?_;dsimp only;try repeat' (first|refine KO ?_|(refine KV (b:=by first|exact U1 j|((with_reducible apply tA (vs:=xJ ⟨u9,ts,tb,false,fn⟩) 2);(iterate 5 exact rfl);exact ax)) (c:=?_))|refine KZ ?_|refine NB fun b=>?_)
      refine aZ 17 _ (by kernel_rfl) rfl (aD (aD (aD (aD (aD (aD (aD aT))))))) ?_;all_goals(refine DD 0 ?_;refine DD 1 ?_;refine DD 2 ?_;(try refine D7 3 ?_);refine DD 3 ?_;refine DD 4 ?_;refine DD 5 ?_;refine DD 6 ?_;refine DD 7 ?_;refine DD 8 ?_;refine DD 9 ?_;refine DD 10 ?_;refine DD 11 ?_;refine DD 12 ?_;refine DD 13 ?_;refine DD 14 ?_;refine DD 15 ?_;refine DD 16 ?_;refine D8 ?_)
      all_goals try repeat' (refine KZ ?_)
      all_goals exact cY (j+1,cs') ⟨by dsimp only;omega,g.symm⟩ (by dsimp only;omega) rfl PU (by rw[mK];exact(by repeat exact bY _ (fH _)))
    | true=>
      obtain⟨av,-⟩:=br.yes rfl;dsimp only at av;unfold iD at av;obtain⟨c0,d0,ah,b3,-,-⟩:=mD av;have az:ts<cs'.length:=by rw[ae];exact(List.getElem?_eq_some_iff.1 ah).1
      obtain⟨cc,p⟩:∃cc,cs'[ts]? =some cc:=⟨_,aA az⟩;obtain⟨c',v⟩:=cc;have ak:=mE p;obtain⟨-,cl,bd⟩:=aa.2 ts c0 c' ah ak;have bo:tb<c'.names.length:=by have h8:=congrArg List.length bd;rw[aO,aO]at h8;have:=(List.getElem?_eq_some_iff.1 b3).1;omega
      obtain⟨d,hd⟩:∃d,c'.names[tb]? =some d:=⟨_,aA bo⟩;have b2:oB (scs cs') ts=c'.fn:=by unfold oB;rw[ak];rfl
      have aj:=YT p hd;rw[b2,aj]at g;have o:=AL (uV p);rcases ab.form with⟨-,h0,-⟩|⟨gs,rfl⟩
      ·exfalso;omega
      refine lT (mK xb cb hb db sR _) ?_;dsimp only at o g⊢;refine rH (lG (F:=[_,_,_,_,_,_]) o) ?_;obtain⟨Rf,aw⟩:∃R,(iB (jK cs')).eraseIdx ts=R:=⟨_,rfl⟩;rw[aw];dsimp only[aU,aY,GG];refine gT 0 rfl ?_;rintro A4 c4 ar an;subst ar;rcases an.form with⟨-,h0,-⟩|⟨g4,rfl⟩
      ·exfalso;omega
      have b1:=RU c'.names;have b5:(cs'.flatMap fF)[ts*5+1]? =some (.int .i64 c'.fn):=Go.Vcg.lQ (enc:=fF) (s:=5) (fun _=>rfl) p 1 _ rfl;have b4:(cs'.flatMap fF)[ts*5+4]? =some (.slice (some ⟨g4,0,none⟩) c'.names.length c4):=Go.Vcg.lQ (enc:=fF) (s:=5) (fun _=>rfl) p 4 _ rfl;try repeat' (first|refine KO ?_|(refine KV (b:=by first|exact U1 j|((with_reducible apply tA (vs:=xJ ⟨u9,ts,tb,true,fn⟩) 3);(iterate 5 exact rfl);exact ax)) (c:=?_))|refine KZ ?_|refine NB fun b=>?_)
      refine aZ 17 _ (by kernel_rfl) rfl (aD (aD (aD (aD (aD (aD (aD (aD aT)))))))) ?_;all_goals(refine D1 0 ?_;refine DD 1 ?_;refine DD 2 ?_;(try refine D7 3 ?_);refine D1 3 ?_;refine DD 4 ?_;refine DD 5 ?_;refine DD 6 ?_;refine D1 7 ?_;refine DD 8 ?_;refine D1 9 ?_;refine D1 10 ?_;refine DD 11 ?_;refine D2 12 rfl (by exact U1 ts) ?_;refine DD 13 ?_;refine D2 14 rfl (by((with_reducible apply eZ 3);(iterate 3 exact rfl);exact b5)) ?_;refine D1 15 ?_;refine DD 16 ?_;refine D8 ?_)
      by_cases bi:fn=c'.fn
      ·rw[if_neg (fun h=>h.2 bi)]at g;try repeat' (first|refine KZ ?_|(refine KB ?_ ?_<;>intro hp))
       all_goals try(exfalso;contradiction)
       all_goals refine gO (bY _ (fH _)) ?_
       all_goals rw[←aw]
       all_goals refine nD (lG (F:=[_,_,_,_,_,_]) o).symm ?_
       all_goals dsimp only[aU,aY]
       all_goals exact cY (j+1,cs') ⟨by dsimp only;omega,g.symm⟩ (by dsimp only;omega) rfl PU (by rw[mK];exact(by repeat exact fH _))
      ·rw[if_pos ⟨rfl,bi⟩]at g;try repeat' (refine KZ ?_)
       refine aZ 16 _ (by kernel_rfl) rfl (aD (cP (aD (aD (aD (aD (aD (aD aT)))))))) ?_;all_goals(refine D1 0 ?_;refine D1 1 ?_;refine D1 2 ?_;refine DD 3 ?_;refine D1 4 ?_;refine D1 5 ?_;refine DD 6 ?_;refine D2 7 rfl (by exact U1 ts) ?_;refine DD 8 ?_;refine D2 9 rfl (by((with_reducible apply eZ 2);(iterate 3 exact rfl);exact b4)) ?_;refine D1 10 ?_;refine D1 11 ?_;refine DD 12 ?_;refine D2 13 rfl (by exact U1 tb) ?_;refine DD 14 ?_)
       all_goals(refine D3 15 ?_;refine D5 ?_;(((with_reducible apply lU 1);(iterate 7 exact rfl);(rw[b1];omega);dsimp only[fT]));refine D9 ?_)
       all_goals refine D8 ?_
       all_goals try repeat' (refine KZ ?_)
       all_goals refine gO (bY _ (fH _)) ?_
       all_goals refine gJ (n' :=(c'.names.set tb { d with held:=true }).length) (xs' :=(c'.names.set tb { d with held:=true }).flatMap mI) 0 rfl (by simp) (oZ (enc:=mI) (s:=4) (fun _=>rfl) (vs:=[.bool true]) (k:=2) (n:=1) (by omega) c'.names tb _ hd rfl) ?_
       all_goals dsimp only[fT]
       all_goals refine nD (L' :=[_,_,_,_,_,_]++iB (jK (cs'.set ts ({ c' with names:=c'.names.set tb { d with held:=true } },.slice (some ⟨g4,0,none⟩) c'.names.length c4)))) (by rw[ZH,OC,←aw];exact zK (F:=[_,_,_,_,_,_]) _ (by rw[OD,AK];exact az)) ?_
       all_goals dsimp only[aU,aY]
       all_goals exact cY (j+1,cs'.set ts ({ c' with names:=c'.names.set tb { d with held:=true } },.slice (some ⟨g4,0,none⟩) c'.names.length c4)) ⟨by dsimp only;omega,g.symm⟩ (by dsimp only;omega) rfl PU (by rw[mK];dsimp only;rw[fU,aPp (c2:={ c' with names:=c'.names.set tb { d with held:=true } }) p rfl];exact(by repeat exact fH _))
   ·have bz:j=sR.uses.length:=by omega
    subst bz;rw[aK (aC _)]at r;rcases ab.form with⟨-,h0,-⟩|⟨gs,rfl⟩
    ·exfalso;omega
    have bc:=fun(w:World) (μ:Mem) (hμ:MOk μ w) (hO:Go.Vcg.Own μ (.inr ⟨.slice (some ⟨gs,0,none⟩) cs'.length cas,43,5,cs'.length,cs'.flatMap fF⟩::iB (jK cs')) w)=>XJ (scs cs') cs' (jK cs') gs cas w μ hμ rfl (AK cs') (by rw[kV];omega) (fun y hy=>by
     obtain⟨k,hk⟩:=List.mem_iff_getElem?.1 hy;have bu:=(List.getElem?_eq_some_iff.1 hk).1;obtain⟨c0,ah⟩:∃c0,sR.scopes[k]? =some c0:=⟨_,aA (by rw[←ae,←kV];exact bu)⟩;have h8:=congrArg List.length (aa.2 k c0 y ah hk).2.2;rw[aO,aO]at h8;rw[h8];exact ai.2 c0 (aB ah)) (fun k c f hc hf=>by
     rw[uV hc]at hf;cases hf;exact⟨rfl,rfl⟩) hO
    refine lT (mK xb cb hb db sR _) ?_;dsimp only;refine AG (fA (.refl _) (eB (.refl _) (eB (.refl _) (eB (.refl _) (eB (.refl _) (fH _)))))) ?_;try repeat' (first|refine KO ?_|(refine CF 36 ?_;(with_reducible apply qV (Ls:=fun i:List Fm=>.inr ⟨.slice (some ⟨gs,0,none⟩) cs'.length cas,43,5,cs'.length,cs'.flatMap fF⟩::iB i) (Post:=fun _ v i=>v=.slice (some ⟨gs,0,none⟩) cs'.length cas∧aC4 (scs cs') (jK cs') (scs cs').length i) 5);(iterate 3 exact rfl);exact EN;exact rfl;exact fun w hμ hO=>bc w _ hμ hO;rintro v3 μ3 i3 b9 ⟨rfl,bk⟩;dsimp only[aU,aY])|refine KZ ?_)
    subst ag;all_goals rw[aOm bk]
    all_goals refine gO (L' :=FB xb cb hb db { sR with scopes:=qZ sR } ⟨.slice (some ⟨gs,0,none⟩) cs'.length cas,.slice Au sR.uses.length cau,MR cs',ce,he,de,qc,qh,qd⟩) (by rw[mK];dsimp only;rw[aFs,XK];exact(by repeat first|exact fH _|(refine fA ?_ ?_;focus(refine kZ.cells ?_;repeat first|exact gC|refine eS rfl ?_))|(refine aPr ?_ ?_;focus(exact kZ.refl _)))) ?_
    all_goals exact MD (Ls:=fLs { sR with scopes:=qZ sR }) (Post:=fun _ v i=>aEf sR { sR with scopes:=qZ sR } v i) _ (some (xb,cb,hb,db,_)) aq rfl (by repeat first|exact kW|refine jD (by exact cX rfl) ?_) rfl (splitB_all _) rfl (fun _ _=>⟨h4,rfl,⟨by show scs (MR cs')=qZ sR;rw[aI3,r];rfl,z.ca,z.hd,z.dn⟩⟩)
end
section
open Go.RowKit Go.Vcg Go.MapKept
def FB1(xb cb hb db:Nat)(s:FS)(q:FW)(L:List Bk):List Bk:=.inl ⟨xb,59,6,[(0,q.sv),(1,q.uv),(2,.int .i64 (s.funcs:Int)),(3,.map (some cb)),(4,.map (some hb)),(5,.map (some db))]⟩::
 .inr ⟨q.sv,43,5,q.cs.length,q.cs.flatMap fF⟩::.inr ⟨q.uv,63,12,s.uses.length,s.uses.flatMap xJ⟩::.mp ⟨cb,q.ce,q.cc⟩::.mp ⟨hb,q.he,q.hc⟩::.mp ⟨db,q.de,q.dc⟩::(iB (jK q.cs)++L)
theorem aKc{X:Ctx}{ops:Array Oper}{Q:Exit→Act→World→Prop}{rest:List Oper}{μ:Mem}{l:bS}{L:List Bk}{o:Oper}{d:Nat}(f:Nat)(t:T){u:Value}(hd:o.dst=some d)(hn:Nat.blt d X.n=true)(hw:iF ops l o=some true)(hr:Ent Tryz.prog μ l L o 21 [.agg (cO t u).toArray].toArray)
 (hk:KR μ t.kids u)(b:t.size≤2000)(hf:t.size≤f)(c:Sh t)(h:sO μ)(a:t.op=1)(e:rtB t 1 false=true)
 (h0:∀μ',MLe μ μ' →4096<fQ (gS f t).scopes→G Tryz.prog X ops Q rest μ' ((d,.tuple #[.pointer none,.int .i64 9])::l) L)
 (h1:∀μ' xb cb hb db q,MLe μ μ' →¬4096<fQ (gS f t).scopes→FR' q (wK f t)→G Tryz.prog X ops Q rest μ' ((d,.tuple #[.pointer (some ⟨xb,0,none⟩),.int .i64 0])::l) (FB1 xb cb hb db (wK f t) q L)):G Tryz.prog X ops Q (o::rest) μ l L:=
 oU (LB:=[]) (Lr:=L) (Ls:=fLs (wK f t)) (Post:=fun _ v i=>aEf (gS f t) (wK f t) v i) 0 hd hn hw hr rfl (fun w hμ p=>aG1 f t u w μ hμ p hk b hf c h a e) fun v μ' i hle g=>by
  cases i with
  | none=>
    obtain⟨hn,rfl⟩:=g;exact h0 μ' hle hn
  | some i=>
    obtain⟨hn,rfl,j⟩:=g;exact h1 μ' i.1 i.2.1 i.2.2.1 i.2.2.2.1 i.2.2.2.2 hle hn j
theorem aKs{μ:Mem}{xb cb hb db:Nat}{s:FS}{q:FW}{L:List Bk}(h:∀y∈FB1 xb cb hb db s q L,Bk.sh y μ):∀y∈FB xb cb hb db s q,Bk.sh y μ:=fun y a=>h y (by
 rw[mK]at a;unfold FB1;rcases aR.1 a with rfl|a
 ·exact aE ..
 refine bP ?_;rcases aR.1 a with rfl|a
 ·exact aE ..
 refine bP ?_;rcases aR.1 a with rfl|a
 ·exact aE ..
 refine bP ?_;rcases aR.1 a with rfl|a
 ·exact aE ..
 refine bP ?_;rcases aR.1 a with rfl|a
 ·exact aE ..
 refine bP ?_;rcases aR.1 a with rfl|a
 ·exact aE ..
 refine bP ?_;exact cC _ a)
def KX(f:Nat)(t:T)(μ:Mem)(v:Value):Prop:=(4096<fQ (gS f t).scopes∧v=.tuple #[.slice none 0 0,.int .i64 9])∨(¬4096<fQ (gS f t).scopes∧∃A c ps,v=.tuple #[.slice A ps.length c,.int .i64 0]∧ScR μ A ps∧scs ps=qZ (gS f t))
theorem EE(f:Nat)(t:T)(q:t.size≤2000)(hf:t.size≤f)(hq:dJ qS t):(wK f t).scopes.length≤9000∧NmB (wK f t):=by
 have r:=aS t;have h:=jO t.kids false [];rw[bM,bG]at h;have a:=vY (kind:=0) (at' :=t.at') (w:=⟨-1,0,false⟩) (l:=bF t.kids false []) s00 (by omega);have o:BS (mL t) (szs t.kids):=by rw[HB];refine⟨?_,a.nm (fun c hc=>by cases hc)⟩;have h1:=a.wt;have h2:wtS s00=0:=rfl;omega
 have j:=sW (N:=nbS f f) t.kids (fun k hk=>NN f f k (hq.kid hk) (by
  have:k.size≤szs t.kids:=T.eL (List.mem_map.2 ⟨k,hk,rfl⟩);omega)) ⟨0,0,false⟩ (mL t)
 have e:BS (gS f t) 0:=BS.gr o j;have hs:=zC (gS f t);refine⟨?_,fun y g=>?_⟩
 ·show(qZ (gS f t)).length≤9000
  rw[←hs.1];have:=e.sc.1;omega
 ·have g:y∈qZ (gS f t):=g;obtain⟨k,hk⟩:=List.mem_iff_getElem?.1 g;have i:=(List.getElem?_eq_some_iff.1 hk).1;obtain⟨c0,b⟩:∃c0,(gS f t).scopes[k]? =some c0:=⟨_,aA (by rw[hs.1];exact i)⟩;have p:=congrArg List.length (hs.2 k c0 y b hk).2.2;rw[aO,aO]at p;rw[p];exact e.2 c0 (aB b)
attribute [local irreducible] wK gS rtB
attribute [local irreducible] jY dT eM bF dR dM anI jK iB G GC GQ GA eV Calls IntKind.wrap Int.decLt Int.decLe
theorem aH9(f:Nat)(t:T)(u:Value)(w:World)(μ:Mem)(hμ:MOk μ w)(hk:KR μ t.kids u)(g:t.size≤2000)(hf:t.size≤f)(h:Sh t)(z:sO μ)(j:t.op=1)(i:rtB t 1 false=true):
 Calls Tryz.prog 12 #[.agg (cO t u).toArray] w fun e w' =>∃v μ',e=.returned v∧vI w w' μ μ' ∧KX f t μ' v:=by
 have ou:=hk.one;obtain⟨r,p⟩:=EE f t g hf (xO t 1 false (iL i) h);have o:(wK f t).scopes=qZ (gS f t):=by unfold wK;rfl
 refine aF Tryz.func12 rfl Tryz.ntmps12 (by simp) hμ ?_;try repeat' (first|refine KO ?_|(refine CF 21 ?_;(with_reducible apply aKc f t);(iterate 3 exact rfl);exact EN;exact hk;exact g;exact hf;exact h;exact z;exact j;exact i;rintro μ1 l a;rotate_left;rintro μ1 xb cb hb db q l a y;unfold FB1)|refine KZ ?_|refine NB fun b=>?_)
 ·refine HJ rfl (cX rfl) (cX rfl) (fun μ' x hL=>.inr ⟨a,?_⟩);obtain⟨A,c,e,hS⟩:=aAx y (aKs (L:=_) hL) r p;exact⟨A,c,q.cs,by rw[e],hS,by rw[y.sc,o]⟩
 ·exact HJ rfl (cX rfl) (cX rfl) (fun μ' _ _=>.inl ⟨a,rfl⟩)
end
end Go.Proofs.YtlllalmkkaolfaaGreatDoor
