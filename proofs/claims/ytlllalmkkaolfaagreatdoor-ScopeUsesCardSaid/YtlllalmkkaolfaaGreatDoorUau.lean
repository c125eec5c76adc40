/- Package scope's reference: isUse and All. -/
import Derived.Test.YtlllalmkkaolfaaGreatDoorUat
set_option maxRecDepth 20000
set_option maxHeartbeats 2000000
namespace Go.Proofs.YtlllalmkkaolfaaGreatDoor
section
open Go.RowKit Go.Vcg
theorem FX{P:Program}{X:Ctx}{Q:Exit→Act→World→Prop}{l:bS}{c:Code}{L1:List Bk}:∀{L2:List Bk} {μ:Mem},(∀μ',MLe μ μ' →(∀x∈L2,Bk.sh x μ')→GC P X c Q μ' l L1)→GC P X c Q μ l (L1++L2)
 |[],μ,h=>by rw[eD];exact h μ (MLe.refl _) fun x b=>by cases b
 | y ::L2,μ,h=>rH gW.symm (aJ5 rfl fun μ1 a e=>FX fun μ' hle b=>h μ' (a.trans hle) fun x hm=>by
     rcases aR.1 hm with rfl|hm
     ·exact Bk.aDc e hle
     ·exact b x hm)
open Go.MapKept
abbrev CZ(x:Int):List Value:=[.int .i64 x]
theorem QO{l:List Int}{n:Nat}(h:l.length=n):nN l n=l.flatMap CZ:=by
 unfold nN;rw[h,cK,List.replicate_zero,eD];induction l generalizing n with
 |nil=>rfl
 |cons a r ih=>rw[aL,bU,ih rfl];rfl
theorem aPs{μ:Mem}{cs:List (Sc×Value)}{sv:Value}(h1:Bk.sh (.inr ⟨sv,43,5,cs.length,cs.flatMap fF⟩) μ)(h2:∀y∈iB (jK cs),Bk.sh y μ)(hl:cs.length≤9000)(hn:∀c∈scs cs,c.names.length≤10000000):∃A c,sv=.slice A cs.length c∧ScR μ A cs:=by
 obtain⟨A,c,e,b⟩:=tM (enc:=fF) (xs:=cs) h1 rfl (by simp) rfl;refine⟨A,c,e,b,hl,fun p a=>?_⟩;have hm:p.1∈scs cs:=fG a;have hf:(p.2,p.1.names)∈jK cs:=fG (f:=fun c:Sc×Value=>(c.2,c.1.names)) a;exact UW (f:=(p.2,p.1.names)) (h2 _ (ZM hf)) (hn _ hm)
def tG(E:List Fl)(ins:List Int)(l:List Sc)(i:Nat):List Sc:=
 if mR E i=true then(match iD l ((ins[i]?).getD 0) (aH E i).t.s with|some ab=>if oB l ab.1≠((aH E i).fn:Int)then CW l ab.1 ab.2 else l|none=>l)else l
theorem PL(E:List Fl)(ins:List Int)(l:List Sc)(i:Nat):mJ l (tG E ins l i):=by
 unfold tG;split
 ·cases iD l ((ins[i]?).getD 0) (aH E i).t.s with
  |none=>exact mJ.refl l
  | some ab=>
    dsimp only;split
    ·exact HD l _ _
    ·exact mJ.refl l
 ·exact mJ.refl l
theorem NL(E:List Fl)(ins:List Int)(L:List Sc):∀k:Nat,mJ L (foldI (tG E ins) 0 k L)
 |0=>by rw[foldI];exact mJ.refl L
 | k+1=>by rw[oY];exact(NL E ins L k).trans (PL E ins _ _)
theorem aEi(E:List Fl):∀(m i:Nat) (s:RS),Ext s (foldI (bI E) i m s)
 |0,_,s=>by rw[foldI];exact Ext.refl s
 | m+1,i,s=>by
   rw[foldI];refine Ext.trans ?_ (aEi E m (i+1) _);unfold bI;dsimp only;split
   ·exact⟨_,_,rfl,rfl⟩
   ·exact⟨_,_,rfl,rfl⟩
theorem aB0(us:List (Int×ByteArray×Int))(u:Int×ByteArray×Int)(l:List Sc):xD (us++[u]) l=(match iD (xD us l) u.1 u.2.1 with|some ab=>if oB (xD us l) ab.1≠u.2.2 then CW (xD us l) ab.1 ab.2 else xD us l|none=>xD us l):=by
 unfold xD;rw[iK];rfl
theorem YU(E:List Fl)(N:Nat)(L:List Sc):∀k:Nat,k≤N→xD (foldI (bI E) 0 k kO).us L=foldI (tG E (foldI (bI E) 0 N kO).ins) 0 k L
 |0,_=>by rw[foldI,foldI];rfl
 | k +1,hk=>by
   have ih:=YU E N L k (by omega);obtain⟨h1,h2,-⟩:=FC E k 0 kO;have h0:kO.ins.length=0:=rfl;rw[oY,oY,bG,←ih];have g:Ext (foldI (bI E) 0 (k+1) kO) (foldI (bI E) 0 N kO):=by have:=aEi E (N- (k+1)) (0+ (k+1)) (foldI (bI E) 0 (k+1) kO);rw[←kR,show k+1+ (N- (k+1))=N by omega]at this;exact this
   obtain⟨a,b,e,-⟩:=g;rw[e,oY,bG];generalize foldI (bI E) 0 k kO=s at h1 h2;have c:((bI E s k).ins++a)[k]? =some (inG E s.ins s.ops (aH E k).up (aH E k).kid):=by
    have hi:(bI E s k).ins=s.ins++[inG E s.ins s.ops (aH E k).up (aH E k).kid]:=by unfold bI;dsimp only;split<;>rfl
    rw[hi,bA,aP (by omega),show k-s.ins.length=0 by omega];rfl
   have f:(bI E s k).us=if mR E k=true then s.us++[(inG E s.ins s.ops (aH E k).up (aH E k).kid,(aH E k).t.s,((aH E k).fn:Int))]else s.us:=by unfold bI;dsimp only;split<;>rfl
   rw[f];unfold tG;rw[c];by_cases hu:mR E k=true
   ·rw[if_pos hu,if_pos hu,aB0];rfl
   ·rw[if_neg hu,if_neg hu]
attribute [local irreducible] aH mR
attribute [local irreducible] jY dT eM bF dR dM anI jK iB G GC GQ GA eV Calls IntKind.wrap Int.decLt Int.decLe
theorem QH(E:List Fl)(fv:Value)(es:List (Fl×Value))(i:Nat)(μ:Mem)(x:FLs μ E fv es)(l:GV E)(hi:i<E.length)(w:World)(hμ:MOk μ w):
 bC 29 #[fv,.int .i64 (i:Int)] w (.bool (mR E i)):=by
 obtain⟨A0,cA,rfl⟩:=x.form;obtain⟨adA,e,u,rfl,v,r,f,y,aa⟩:=x.get hi;have hup:=l.up i e v;have z:=l.len;generalize a:mR E i=rb;unfold mR at a;rw[r]at a;have h:0≤e.up→∃k ep up',e.up=((k:Nat):Int)∧aH E k=ep∧gF μ (adA.add (k*11)) [.int .i64 ep.t.op,.int .i64 ep.t.at',.int .i64 ep.t.n,.int .i64 ep.t.m,.string ep.t.s,up',.int .i64 ep.up,.int .i64 (ep.kid:Int),.int .i64 (ep.fn:Int),.int .i64 (ep.num:Int),.int .i64 (ep.last:Int)]:=fun h0=>by obtain⟨ad9,ep,up',e9,-,j,g,-,-⟩:=x.get (i:=e.up.toNat) (by omega);cases e9;exact⟨e.up.toNat,ep,up',by omega,j,g⟩
 obtain⟨t,up,kid,fn,num,last⟩:=e;dsimp only at a f hup h;refine aF Tryz.func29 rfl Tryz.ntmps29 (by simp) hμ ?_;by_cases p:t.op=34
 ·rw[decide_eq_true p,Bool.true_or]at a;try repeat' (first|refine KO ?_|(refine KV (b:=by first|exact U1 i|exact U4 f) (c:=?_))|refine KZ ?_)
  all_goals exact aQ rfl rfl (congrArg _ a)
 rw[decide_eq_false p,nE]at a;by_cases h0:0≤up
 ·obtain⟨k,ep,up',rfl,j,g⟩:=h h0;rw[decide_eq_true h0,bR,aG,j]at a;by_cases o:ep.t.op=39
  ·rw[decide_eq_true o,bR]at a;by_cases h3:ep.t.n=3
   ·rw[decide_eq_true h3,bR]at a;by_cases hk:kid=0
    ·rw[decide_eq_true hk]at a;subst hk;try repeat' (first|refine KO ?_|(refine KV (b:=by first|exact U1 i|exact U1 k|exact U4 f|exact U4 g) (c:=?_))|refine KZ ?_)
     all_goals exact aQ rfl rfl (congrArg _ a)
    ·rw[decide_eq_false hk]at a;have q:¬(kid:Int)=0:=by omega
     try repeat' (first|refine KO ?_|(refine KV (b:=by first|exact U1 i|exact U1 k|exact U4 f|exact U4 g) (c:=?_))|refine KZ ?_)
     all_goals(refine aQ rfl rfl (congrArg _ ?_);rw[←a];exact decide_eq_false q)
   ·rw[decide_eq_false h3,dV]at a;try repeat' (first|refine KO ?_|(refine KV (b:=by first|exact U1 i|exact U1 k|exact U4 f|exact U4 g) (c:=?_))|refine KZ ?_)
    all_goals exact aQ rfl rfl (congrArg _ a)
  ·rw[decide_eq_false o,dV,dV]at a;try repeat' (first|refine KO ?_|(refine KV (b:=by first|exact U1 i|exact U1 k|exact U4 f|exact U4 g) (c:=?_))|refine KZ ?_)
   all_goals exact aQ rfl rfl (congrArg _ a)
 ·rw[decide_eq_false h0,dV,dV,dV]at a;try repeat' (first|refine KO ?_|(refine KV (b:=by first|exact U1 i|exact U4 f) (c:=?_))|refine KZ ?_)
  all_goals exact aQ rfl rfl (congrArg _ a)
def aPk(E:List Fl)(rn:RS)(μ:Mem)(v:Value):Prop:=∃A c ps ib ob,v=.agg #[.slice A ps.length c,.slice (some ⟨ib,0,none⟩) E.length E.length,.slice (some ⟨ob,0,none⟩) E.length E.length]∧ScR μ A ps∧scs ps=qY [] (xD rn.us rn.L)∧Sl CZ 1 μ (some ⟨ib,0,none⟩) E.length rn.ins∧Sl CZ 1 μ (some ⟨ob,0,none⟩) E.length rn.ops
theorem aFm(E:List Fl)(fv:Value)(es:List (Fl×Value))(μ:Mem)(hF:FLs μ E fv es)(ar:GV E)(ca:0<E.length)(a8:∀c∈(foldI (bI E) 0 E.length kO).L,c.names.length≤10000000)(w:World)(hμ:MOk μ w):
 Calls Tryz.prog 27 #[fv] w fun e w' =>∃v μ',e=.returned v∧vI w w' μ μ' ∧aPk E (foldI (bI E) 0 E.length kO) μ' v:=by
 have ak:=fun(w:World) (hμ:MOk μ w) (hO:Go.Vcg.Own μ [] w)=>TK E fv es μ hF ar w hμ hO;obtain⟨bn,bm,bk⟩:=FC E E.length 0 kO;have l:=YU E E.length (foldI (bI E) 0 E.length kO).L E.length (aC _);generalize foldI (bI E) 0 E.length kO=rn at a8 ak bn bm bk l⊢;have b6:=ar.len;have ao:rn.ins.length=E.length:=by have h0:kO.ins.length=0:=rfl;omega
 have hops:rn.ops.length=E.length:=by have h0:kO.ops.length=0:=rfl;omega
 have b9:rn.L.length≤4000:=by have h0:kO.L.length=0:=rfl;omega
 obtain⟨A0,cA,rfl⟩:=hF.form;refine aF Tryz.func27 rfl Tryz.ntmps27 (by simp) hμ ?_;try repeat' (first|((with_reducible show GC _ _ (Code.seq (Code.region 2 _ _) _) _ _ _ _);(apply dX))|refine KO ?_|(refine CF 51 ?_;(with_reducible apply qV (LB:=[]) (Ls:=fun q=>TB E.length rn.ins rn.ops q) (Post:=fun _ v q=>v=.agg #[q.sv,.slice (some ⟨q.ib,0,none⟩) E.length E.length,.slice (some ⟨q.ob,0,none⟩) E.length E.length]∧scs q.cs=rn.L) 1);(iterate 3 exact rfl);exact EN;exact rfl;exact fun w hμ hO=>ak w hμ hO;rintro v1 μ1 ⟨sv,ib,ob,cs⟩ ba ⟨rfl,aw⟩;dsimp only at aw⊢;unfold TB;dsimp only[aU,aY];refine fI 1 rfl ?_;rintro As cas rfl a1)|refine KZ ?_|refine NB fun b=>?_)
 rename_i br;obtain⟨bt,bg⟩:∃x,x=b:=⟨_,rfl⟩;rw[←bg];clear bg;refine gcs ?_;try repeat' (refine KZ ?_)
 have bh:=hF.mono ba;have b3:cs.length=rn.L.length:=by rw[←aw,kV]
 have ap:=fun k=>NL E rn.ins rn.L k;have bj:=fun k=>oY (tG E rn.ins) 0 k rn.L;refine cD (ι:=Nat×List (Sc×Value)) (fun q=>q.1≤E.length∧scs q.2=foldI (tG E rn.ins) 0 q.1 rn.L) (fun q=>E.length-q.1) (fun _=>μ1) (fun q=>[(4,.int .i64 (q.1:Int)),(0,.slice A0 E.length cA),(2,.pointer (some ⟨br,0,none⟩)),(3,.pointer (some ⟨bt,0,none⟩))]) (fun q=>.inl ⟨bt,73,3,[(0,.slice As q.2.length cas),(1,.slice (some ⟨ib,0,none⟩) E.length E.length),(2,.slice (some ⟨ob,0,none⟩) E.length E.length)]⟩::.inl ⟨br,73,3,idx 0 [.slice none 0 0,.slice none 0 0,.slice none 0 0]⟩::.inr ⟨.slice As q.2.length cas,43,5,q.2.length,q.2.flatMap fF⟩::.inr ⟨.slice (some ⟨ib,0,none⟩) E.length E.length,3,1,E.length,nN rn.ins E.length⟩::.inr ⟨.slice (some ⟨ob,0,none⟩) E.length E.length,3,1,E.length,nN rn.ops E.length⟩::iB (jK q.2)) (0,cs) ⟨aN _,by dsimp only;rw[aw,foldI]⟩ (fun a w hs=>hs.sel PU (by exact fA (.cells PU) (fH _))) ?_;rintro⟨i,cs'⟩ ⟨hi,o⟩;dsimp only at hi o⊢;have z:=ap i;have f:=bj i;rw[bG,←o]at f;rw[←o]at z;have au:cs'.length=rn.L.length:=by rw[←kV];exact z.1.symm
 have al:∀y∈scs cs',y.names.length≤10000000:=fun y hy=>by obtain⟨k,hk⟩:=List.mem_iff_getElem?.1 hy;have bp:=(List.getElem?_eq_some_iff.1 hk).1;obtain⟨c0,bf⟩:∃c0,rn.L[k]? =some c0:=⟨_,aA (by rw[←au,←kV];exact bp)⟩;have h8:=congrArg List.length (z.2 k c0 y bf hk).2.2;rw[aO,aO]at h8;rw[h8];exact a8 c0 (aB bf)
 by_cases hlt:i<E.length
 ·obtain⟨adA,e,u,rfl,b8,ai,ah,b5,b7⟩:=bh.get hlt;have g:=fun w μc hw (hle:MLe μ1 μc)=>QH E (.slice (some adA) E.length cA) es i μc (bh.mono hle) ar hlt w hw;obtain⟨v,hv⟩:∃v,rn.ins[i]? =some v:=⟨_,aA (by omega)⟩;have bc:=MO (n:=E.length) hv;rw[show tG E rn.ins (scs cs') i=if mR E i=true then(match iD (scs cs') ((rn.ins[i]?).getD 0) (aH E i).t.s with|some ab=>if oB (scs cs') ab.1≠((aH E i).fn:Int)then CW (scs cs') ab.1 ab.2 else scs cs' |none=>scs cs')else scs cs' from rfl,hv,lV,ai]at f;obtain⟨t,up,kid,fn,num,last⟩:=e;dsimp only at f ah;cases ag:mR E i with
  | false=>
    rw[ag]at g;rw[ag,if_neg (by simp)]at f;try repeat' (first|refine KO ?_|refine K2 29 g ?_|refine KZ ?_)
    all_goals exact cY (i+1,cs') ⟨by dsimp only;omega,f.symm⟩ (by dsimp only;omega) rfl PU (fH _)
  | true=>
    rw[ag]at g;rw[ag,if_pos rfl]at f;have j:∀(w:World) (μc:Mem),MOk μc w→Bk.sh (.inr ⟨.slice As cs'.length cas,43,5,cs'.length,cs'.flatMap fF⟩) μc→(∀y∈iB (jK cs'),Bk.sh y μc)→bC 30 #[.slice As cs'.length cas,.int .i64 v,.string t.s] w (yV (iD (scs cs') v t.s)):=fun w μc hw h1 h2=>by obtain⟨A9,c9,e9,ax⟩:=aPs h1 h2 (by omega) al;rw[e9];exact MB w μc hw cs' A9 c9 ax v t.s
    have bd:∀a b,iD (scs cs') v t.s=some (a,b)→∃c d,(scs cs')[a]? =some c∧c.names[b]? =some d∧d.name=t.s∧(a:Int)≤v:=fun a b h=>by unfold iD at h;exact mD h
    generalize iD (scs cs') v t.s=r at j f bd;cases r with
    | none=>
      dsimp only[yV]at j f;try repeat' (first|refine KO ?_|refine K2 29 g ?_)
      refine aZ 21 _ (by kernel_rfl) rfl (aD (cP (aD (aD aT)))) ?_;all_goals(refine D1 0 ?_;refine DD 1 ?_;refine D1 2 ?_;refine DD 3 ?_;refine DD 4 ?_;refine D2 5 rfl (by exact U1 i) ?_;refine D2 6 rfl (by((with_reducible apply qK 2);(iterate 3 exact rfl);exact bc)) ?_;refine DD 7 ?_;refine DD 8 ?_;refine D2 9 rfl (by exact U1 i) ?_;refine DD 10 ?_;refine DD 11 ?_;refine D2 12 rfl (by exact U4 ah) ?_)
      all_goals(refine D3 13 ?_;refine D5 ?_;(with_reducible apply F1 30);exact rfl;exact EN;exact fun w μc hw aa=>j w μc hw (aa.own _ (by(apply dF;(apply dF;exact aE ..)))) (fun y hy=>aa.own y (by repeat(first|exact hy|apply dF)));refine D9 ?_)
      all_goals(refine DD 14 ?_;refine DD 15 ?_;refine DD 16 ?_;refine DD 17 ?_;refine DD 18 ?_;refine DD 19 ?_;refine DD 20 ?_;refine D8 ?_)
      all_goals try repeat' (refine KZ ?_)
      refine aZ 15 _ (by kernel_rfl) rfl (aD (cP (aD (aD aT)))) ?_;all_goals(refine DD 0 ?_;refine DD 1 ?_;(try refine D7 2 ?_);refine DD 2 ?_;refine DD 3 ?_;refine DD 4 ?_;refine DD 5 ?_;refine DD 6 ?_;refine DD 7 ?_;refine DD 8 ?_;refine DD 9 ?_;refine DD 10 ?_;refine DD 11 ?_;refine DD 12 ?_;refine DD 13 ?_;refine DD 14 ?_;refine D8 ?_)
      all_goals try repeat' (refine KZ ?_)
      all_goals exact cY (i+1,cs') ⟨by dsimp only;omega,f.symm⟩ (by dsimp only;omega) rfl PU (fH _)
    | some ab=>
      obtain⟨ts,tb⟩:=ab;obtain⟨c',d,ad,hd,-,-⟩:=bd ts tb rfl;dsimp only[yV]at j f;have az:ts<cs'.length:=by rw[←kV];exact(List.getElem?_eq_some_iff.1 ad).1
      obtain⟨cc,p⟩:∃cc,cs'[ts]? =some cc:=⟨_,aA az⟩;obtain⟨c'',vv⟩:=cc;obtain rfl:c'' =c' :=by have h9:=mE p;rw[ad]at h9;cases h9;rfl
      have b4:=(List.getElem?_eq_some_iff.1 hd).1;have bu:oB (scs cs') ts=c''.fn:=by unfold oB;rw[ad];rfl
      have bq:=YT p hd;rw[bu,bq]at f;have af:=AL (uV p);dsimp only at af;rcases a1.form with⟨-,h0,-⟩|⟨gs,rfl⟩
      ·exfalso;omega
      try repeat' (first|refine KO ?_|refine K2 29 g ?_)
      refine aZ 21 _ (by kernel_rfl) rfl (aD (cP (aD (aD aT)))) ?_;all_goals(refine D1 0 ?_;refine DD 1 ?_;refine D1 2 ?_;refine DD 3 ?_;refine DD 4 ?_;refine D2 5 rfl (by exact U1 i) ?_;refine D2 6 rfl (by((with_reducible apply qK 2);(iterate 3 exact rfl);exact bc)) ?_;refine DD 7 ?_;refine DD 8 ?_;refine D2 9 rfl (by exact U1 i) ?_;refine DD 10 ?_;refine DD 11 ?_;refine D2 12 rfl (by exact U4 ah) ?_)
      all_goals(refine D3 13 ?_;refine D5 ?_;(with_reducible apply F1 30);exact rfl;exact EN;exact fun w μc hw aa=>j w μc hw (aa.own _ (by(apply dF;(apply dF;exact aE ..)))) (fun y hy=>aa.own y (by repeat(first|exact hy|apply dF)));refine D9 ?_)
      all_goals(refine DD 14 ?_;refine DD 15 ?_;refine DD 16 ?_;refine DD 17 ?_;refine DD 18 ?_;refine DD 19 ?_;refine DD 20 ?_;refine D8 ?_)
      try repeat' (refine KZ ?_)
      refine rH (lG (F:=[_,_,_,_,_]) af) ?_;obtain⟨Rf,ay⟩:∃R,(iB (jK cs')).eraseIdx ts=R:=⟨_,rfl⟩;rw[ay];dsimp only[aU,aY,GG];refine gT 0 rfl ?_;rintro A4 c4 bi a6;subst bi;rcases a6.form with⟨-,h0,-⟩|⟨g4,rfl⟩
      ·exfalso;omega
      have bs:=RU c''.names;have bx:(cs'.flatMap fF)[ts*5+1]? =some (.int .i64 c''.fn):=Go.Vcg.lQ (enc:=fF) (s:=5) (fun _=>rfl) p 1 _ rfl;have bw:(cs'.flatMap fF)[ts*5+4]? =some (.slice (some ⟨g4,0,none⟩) c''.names.length c4):=Go.Vcg.lQ (enc:=fF) (s:=5) (fun _=>rfl) p 4 _ rfl;refine aZ 15 _ (by kernel_rfl) rfl (aD (aD (cP (aD (aD (aD aT)))))) ?_;all_goals(refine DD 0 ?_;refine DD 1 ?_;(try refine D7 2 ?_);refine D1 2 ?_;refine DD 3 ?_;refine DD 4 ?_;refine D2 5 rfl (by exact U1 ts) ?_;refine DD 6 ?_;refine D2 7 rfl (by((with_reducible apply eZ 2);(iterate 3 exact rfl);exact bx)) ?_;refine DD 8 ?_;refine DD 9 ?_;refine D2 10 rfl (by exact U1 i) ?_;refine DD 11 ?_;refine D2 12 rfl (by exact U4 ah) ?_;refine D1 13 ?_;refine DD 14 ?_;refine D8 ?_)
      by_cases ai:c''.fn=(fn:Int)
      ·rw[if_neg (fun h=>h ai)]at f;try repeat' (refine KZ ?_)
       all_goals rw[←ay]
       all_goals refine nD (lG (F:=[_,_,_,_,_]) af).symm ?_
       all_goals dsimp only[aU,aY]
       all_goals exact cY (i+1,cs') ⟨by dsimp only;omega,f.symm⟩ (by dsimp only;omega) rfl PU (fH _)
      ·rw[if_pos ai]at f;try repeat' (first|refine KO ?_|((with_reducible apply lU 0);(iterate 7 exact rfl);(rw[bs];omega);(dsimp only[fT]))|(refine KV (b:=by first|exact U1 ts|exact U1 tb|((with_reducible apply eZ 3);(iterate 3 exact rfl);exact bw)) (c:=?_))|refine KZ ?_)
       all_goals refine gJ (n' :=(c''.names.set tb { d with held:=true }).length) (xs' :=(c''.names.set tb { d with held:=true }).flatMap mI) 0 rfl (by simp) (oZ (enc:=mI) (s:=4) (fun _=>rfl) (vs:=[.bool true]) (k:=2) (n:=1) (by omega) c''.names tb _ hd rfl) ?_
       all_goals dsimp only[fT]
       all_goals refine nD (L' :=[_,_,_,_,_]++iB (jK (cs'.set ts ({ c'' with names:=c''.names.set tb { d with held:=true } },.slice (some ⟨g4,0,none⟩) c''.names.length c4)))) (by rw[ZH,OC,←ay];exact zK (F:=[_,_,_,_,_]) _ (by rw[OD,AK];exact az)) ?_
       all_goals dsimp only[aU,aY]
       all_goals exact cY (i+1,cs'.set ts ({ c'' with names:=c''.names.set tb { d with held:=true } },.slice (some ⟨g4,0,none⟩) c''.names.length c4)) ⟨by dsimp only;omega,f.symm⟩ (by dsimp only;omega) rfl PU (by dsimp only;rw[fU,aPp (c2:={ c'' with names:=c''.names.set tb { d with held:=true } }) p rfl];exact fH _)
 ·obtain rfl:i=E.length:=by omega
  rw[←o]at l;have av:=QO ao;have aq:=QO hops;refine FX (L1:=[_,_]) fun μ2 b2 aj=>?_;obtain⟨A9,c9,e9,ax⟩:=aPs (aj _ (aE ..)) (fun y hy=>aj y (bP (bP (bP hy)))) (by omega) al;have bb:=aj _ (bP (aE ..));have a7:=aj _ (bP (bP (aE ..)));rw[av]at bb;rw[aq]at a7;obtain⟨Ai,ci,ei,b0⟩:=tM (enc:=CZ) (xs:=rn.ins) bb ao (by simp) rfl;obtain⟨Ao,co,eo,bz⟩:=tM (enc:=CZ) (xs:=rn.ops) a7 hops (by simp) rfl;cases ei;cases eo;cases e9;try repeat' (first|refine KZ ?_|((with_reducible apply F2 52);exact rfl;exact EN;exact fun w hw=>PI w _ hw cs' As cas ax;rintro v3 μ3 an ⟨A3,c3,qs,rfl,b1,bo⟩))
  refine sC rfl (RG (vs:=[.slice A3 qs.length c3,.slice (some ⟨ib,0,none⟩) E.length E.length,.slice (some ⟨ob,0,none⟩) E.length E.length]) 1 rfl rfl rfl rfl rfl) (fun μ' ae hL=>⟨A3,c3,qs,ib,ob,rfl,b1.mono ae,by rw[bo,←l],?_,?_⟩)
  ·exact b0.mono (an.trans ae)
  ·exact bz.mono (an.trans ae)
end
section
open Go.RowKit Go.Vcg Go.MapKept
theorem XR{l:List Sc}{k:Nat}{s:Sc}(h:l[k]? =some s):fQ (l.take (k+1))=fQ (l.take k)+s.names.length:=by
 unfold fQ;rw[cG,h,bJ,kM];simp
theorem aFw{l:List Sc}(h:∀s∈l,s.names.length≤10000000):fQ l≤10000000*l.length:=by
 unfold fQ;induction l with
 |nil=>simp
 | cons a r ih=>
   have h1:=ih fun s hs=>h s (bP hs);have h2:=h a (aE ..);rw[aL,dY,bH];omega
theorem XT{l l' :List Sc}(h:mJ l l'):fQ l' =fQ l:=by
 unfold fQ;congr 1;apply eP;intro i;rw[aX,aX];cases hc:l[i]? with
 | none=>
   have h1:=List.getElem?_eq_none_iff.1 hc;rw[dQ (by rw[←h.1];exact h1)]
 | some c=>
   obtain⟨c',a⟩:∃c',l'[i]? =some c' :=⟨_,aA (by rw[←h.1];exact(List.getElem?_eq_some_iff.1 hc).1)⟩;have b:=congrArg List.length (h.2 i c c' hc a).2.2;rw[aO,aO]at b;rw[a,fC,fC,b]
theorem JC{n:Nat}(hf:∀(t:T) (up:Int) (kid fn i c j:Nat) (e:Fl),t.size≤n→(gE n t up kid fn i c)[j]? =some e→e.last=i+j+e.t.size-1∧j+e.t.size≤t.size):∀(ks:List T) (pa:Int) (j0 fn i c j:Nat) (e:Fl),(∀k∈ks,k.size≤n)→(fE (gE n) ks pa j0 fn i c)[j]? =some e→e.last=i+j+e.t.size-1∧j+e.t.size≤szs ks
 |[],_,_,_,_,_,_,_,_,h=>by simp[fE]at h
 | k::r,pa,j0,fn,i,c,j,e,hk,h=>by
   rw[fE]at h;have hl:=pH n k pa j0 fn i c (hk k (aE ..));rw[bK];by_cases a:j<k.size
   ·rw[aV (by omega)]at h;obtain⟨h1,h2⟩:=hf k pa j0 fn i c j e (hk k (aE ..)) h;exact⟨h1,by omega⟩
   ·rw[aP (by omega),hl]at h;obtain⟨h1,h2⟩:=JC hf r pa (j0+1) fn (i+k.size) _ (j-k.size) e (fun k h=>hk k (bP h)) h;exact⟨by omega,by omega⟩
theorem EC:∀(n:Nat) (t:T) (up:Int) (kid fn i c j:Nat) (e:Fl),t.size≤n→(gE n t up kid fn i c)[j]? =some e→e.last=i+j+e.t.size-1∧j+e.t.size≤t.size
 |0,t,_,_,_,_,_,_,_,h,_=>by have:=aS t;omega
 | n +1,t,up,kid,fn,i,c,j,e,hs,h=>by
   rw[gE]at h;have a:=aS t;cases j with
   | zero=>
     have h:some _=some e:=h;cases h;exact⟨rfl,by dsimp only;omega⟩
   | succ j=>
     rw[bW]at h;obtain⟨h1,h2⟩:=JC (EC n) t.kids i 0 _ (i+1) _ j e (fun k hk=>eN hs hk) h;exact⟨by omega,by omega⟩
theorem aKn{t:T}{d:Nat}{s:Bool}(h:Rt t d s)(a:t.size≤2000):GV (eO t):=by
 have hw:=aPc t d s h;refine⟨by rw[xG];exact a,fun i e he=>?_,fun e he=>RT (p:=dJ Vw) (fun t k h hk=>h.kid hk) _ _ _ _ _ _ _ hw e he,fun e he=>?_,fun i e he=>?_⟩
 ·obtain⟨h1,h2⟩:=EC t.size t (-1) 0 0 0 0 i e (aC _) he;have:=aS e.t;rw[xG];omega
 ·obtain⟨i,hi⟩:=List.mem_iff_getElem?.1 he;obtain⟨h1,h2⟩:=EC t.size t (-1) 0 0 0 0 i e (aC _) hi;omega
 ·obtain⟨h1,-⟩:=HX t.size t (-1) 0 0 0 0 i e (aC _) he;rcases h1 with h1|h1<;>omega
attribute [local irreducible] fQ wL eO rtB foldI bI
attribute [local irreducible] jY dT eM bF dR dM anI jK iB G GC GQ GA eV Calls IntKind.wrap Int.decLt Int.decLe
theorem aA1(ps:List (Sc×Value))(A:Option Addr)(c:Nat)(w:World)(μ:Mem)(hμ:MOk μ w)(j:ScR μ A ps):
 bC 28 #[.slice A ps.length c] w (.bool (decide (4096<fQ (scs ps)))):=by
 obtain⟨z,hl,f⟩:=j;have o:∀s∈scs ps,s.names.length≤10000000:=fun s hs=>by obtain⟨p,u,rfl⟩:=List.mem_map.1 hs;obtain⟨_,_,_,_,h,_⟩:=f p u;exact h
 have t:(scs ps).length=ps.length:=kV ps;have e:=fun{k:Nat} {s:Sc} (h:(scs ps)[k]? =some s)=>XR h;have q:=fun k=>aFw (l:=(scs ps).take k) fun s hs=>o s (bE hs);have h0:fQ ((scs ps).take 0)=0:=by unfold fQ;rfl
 have g:fQ ((scs ps).take ps.length)=fQ (scs ps):=by rw[aK (by omega)]
 refine aF Tryz.func28 rfl Tryz.ntmps28 (by simp) hμ ?_;try repeat' (refine KZ ?_)
 refine cD (ι:=Nat) (fun k=>k≤ps.length) (fun k=>ps.length-k) (fun _=>μ) (fun k=>[(4,.int .i64 (k:Int)),(3,.int .i64 ((fQ ((scs ps).take k):Nat):Int)),(0,.slice A ps.length c)]) (fun _=>[]) 0 (aN _) (fun a w hs=>by
  rw[h0];exact J5 hs) ?_
 rintro k hk;have hb:=q k;rw[cM]at hb;by_cases hlt:k<ps.length
 ·obtain⟨ad,y,rfl,r,hm⟩:=z.get hlt;obtain⟨s,v⟩:=y;have i:=f _ (aB r);dsimp only at i hm;obtain⟨A2,c2,rfl,aa,x,-⟩:=i;have e:=e (mE r);dsimp only at e;try repeat' (first|refine KO ?_|(refine KV (b:=by first|exact U1 k|exact U4 hm) (c:=?_))|refine KZ ?_)
  all_goals refine cY (k+1) (by omega) (by omega) rfl (by refine eS rfl (eS ?_ (eS rfl gC));rw[e];rfl) PS
 ·obtain rfl:k=ps.length:=by omega
  rw[g]at hb⊢;try repeat' (refine KZ ?_)
  all_goals refine aQ rfl rfl (congrArg _ ?_)
  all_goals exact decide_eq_decide.2 (by omega)
theorem aKo(t:T)(u:Value)(w:World)(μ:Mem)(hμ:MOk μ w)(hk:KR μ t.kids u)(e:t.size≤2000)(c:Sh t)(f:sO μ)(h:t.op≠1∨rtB t 1 false=false):
 bC 21 #[.agg (cO t u).toArray] w (.tuple #[.pointer none,.int .i64 1]):=by
 have ou:=hk.one;have a:=fun w μc hw (hle:MLe μ μc)=>zA t _ w μc hw (hk.mono hle) (by omega) c (f.mono hle);refine aF Tryz.func21 rfl Tryz.ntmps21 (by simp) hμ ?_;by_cases h1:t.op=1
 ·rw[h.resolve_left (fun h=>h h1)]at a;try repeat' (first|refine KO ?_|refine K2 38 a ?_|refine KZ ?_|refine NB fun b=>?_)
  all_goals exact wG rfl (cX rfl) (cX rfl) rfl rfl
 ·try repeat' (first|refine KZ ?_|refine NB fun b=>?_)
  all_goals exact wG rfl (cX rfl) (cX rfl) rfl rfl
end
section
open Go.RowKit Go.Vcg
def inN(R:RS)(i:Nat):Int:=(R.ins[i]?).getD 0
def opN(R:RS)(i:Nat):Int:=(R.ops[i]?).getD 0
def fnO(E:List Fl)(i:Nat):Int:=if(aH E i).t.op=4 then((aH E i).num:Int)else((aH E i).fn:Int)
def kI(E:List Fl)(R:RS)(i m:Nat):Prop:=
 R.ops[i]? =some (m:Int)∧(jC (aH E i).t=true→1≤m∧R.L[m-1]? =some ⟨inN R i,fnO E i,5,(aH E i).t.at',[⟨(aH E i).t.s,7,false,0⟩]⟩)∧
 R.L[m]? =some ⟨if jC (aH E i).t=true then(m:Int)-1 else inN R i,fnO E i,(nmE E i).2,(aH E i).t.at',(nmE E i).1⟩
structure Arr (E:List Fl) (n:Nat) (R:RS):Prop where
 li:R.ins.length=n
 lo:R.ops.length=n
 hin:∀i<n,R.ins[i]? =some (inG E R.ins R.ops (aH E i).up (aH E i).kid)
 no:∀i<n,(nmE E i).2<0→R.ops[i]? =some (-1)
 yes:∀i<n,¬(nmE E i).2<0→∃m,kI E R i m
 mono:∀(i j:Nat) (o o' :Int),i<j→R.ops[i]? =some o→R.ops[j]? =some o' →0≤o' →o<o'
 lt:∀(i:Nat) (o:Int),R.ops[i]? =some o→o<R.L.length
theorem FV{α:Type}{l:List α}{k:Nat}{x:α}(h:l[k]? =some x)(a:List α):(l++a)[k]? =some x:=by
 rw[aV (List.getElem?_eq_some_iff.1 h).1,h]
theorem UD(E:List Fl)(ins ops a b:List Int){up:Int}(kid:Nat)(h1:up<ins.length)(h2:up<ops.length):inG E (ins++a) (ops++b) up kid=inG E ins ops up kid:=by
 unfold inG;by_cases h0:0≤up
 ·rw[if_pos h0,if_pos h0,aV (by omega),aV (by omega)]
 ·rw[if_neg h0,if_neg h0]
theorem kI.ext{E:List Fl}{R R' :RS}{k m:Nat}(h:kI E R k m){a b:List Int}{c:List Sc}(h1:R'.ins=R.ins++a)(h2:R'.ops=R.ops++b)(h3:R'.L=R.L++c)(hk:k<R.ins.length):kI E R' k m:=by
 have e:inN R' k=inN R k:=by unfold inN;rw[h1,aV hk]
 obtain⟨p1,p2,p3⟩:=h;refine⟨by rw[h2];exact FV p1 _,fun hs=>⟨(p2 hs).1,?_⟩,?_⟩
 ·rw[h3,e];exact FV (p2 hs).2 _
 ·rw[h3,e];exact FV p3 _
theorem Arr.step{E:List Fl}{i:Nat}{s:RS}(h:Arr E i s)(g:∀x,x≤i→(aH E x).up<x):Arr E (i+1) (bI E s i):=by
 have hup:=g i (aC _);obtain⟨in0,l⟩:∃x,inG E s.ins s.ops (aH E i).up (aH E i).kid=x:=⟨_,rfl⟩;have key:∃(o:Int) (Ls:List Sc) (us:List (Int×ByteArray×Int)),bI E s i=⟨s.L++Ls,s.ins++[in0],s.ops++[o],us⟩∧((nmE E i).2<0→o= -1)∧(o< (s.L++Ls).length∧(0≤o→s.L.length≤o))∧(¬(nmE E i).2<0→∃m:Nat,o=m∧kI E ⟨s.L++Ls,s.ins++[in0],s.ops++[o],us⟩ i m):=by
  unfold bI;dsimp only;rw[l];generalize hr:nmE E i=r;by_cases h0:r.2<0
  ·rw[if_pos h0];refine⟨-1,[],_,by rw[eD],fun _=>rfl,⟨by omega,fun h=>by omega⟩,fun h=>absurd h0 h⟩
  ·rw [if_neg h0];have ei:∀(o:Int) (L:List Sc) us,inN ⟨L,s.ins++[in0],s.ops++[o],us⟩ i=in0:=fun o L us=>by unfold inN;dsimp only;rw[aP (by rw[h.li];exact aC _),h.li,cK];rfl
   have eo:∀(o:Int),(s.ops++[o])[i]? =some o:=fun o=>by rw[aP (by rw[h.lo];exact aC _),h.lo,cK];rfl
   cases hs:jC (aH E i).t with
   | false=>
     rw[if_neg (by simp),if_neg (by simp)];refine⟨s.L.length,_,_,rfl,fun h=>absurd h h0,⟨by simp;omega,fun _=>mV _⟩,fun _=>⟨s.L.length,rfl,eo _,(fun h=>by rw[hs]at h;cases h),?_⟩⟩;rw[hs,if_neg (show¬(false=true)by decide),ei,hr];dsimp only;rw[aP (aC _),cK];rfl
   | true=>
     rw[if_pos rfl,if_pos rfl,bA,aI,cN];refine⟨_,_,_,rfl,fun h=>absurd h h0,⟨by simp,fun _=>by omega⟩,fun _=>⟨s.L.length+1,rfl,eo _,(fun _=>⟨by omega,?_⟩),?_⟩⟩
     ·rw[ei,Nat.add_sub_cancel];dsimp only;rw[aP (aC _),cK];rfl
     ·rw[hs,if_pos rfl,hr];dsimp only;rw[aP (by omega),Nat.add_sub_cancel_left,show((s.L.length+1:Nat):Int)-1=(s.L.length:Int)by omega];rfl
 obtain⟨o,Ls,us,hk,w,⟨hlt,ab⟩,q⟩:=key;have eo:(s.ops++[o])[i]? =some o:=by rw[aP (by rw[h.lo];exact aC _),h.lo,cK];rfl
 rw[hk];have hl:(s.L++Ls).length=s.L.length+Ls.length:=aI;refine⟨by simp[h.li],by simp[h.lo],fun k z=>?_,fun k z hn=>?_,fun k z p=>?_,fun a b x y ad v p u=>?_,fun a x v=>?_⟩
 ·by_cases f:k<i
  ·have e:=h.hin k f;have j:(aH E k).up<i:=by have:=g k (by omega);omega
   dsimp only;rw[UD _ _ _ _ _ _ (by rw[h.li];exact j) (by rw[h.lo];exact j)];exact FV e _
  ·obtain rfl:k=i:=by omega
   dsimp only;rw[UD _ _ _ _ _ _ (by rw[h.li];exact hup) (by rw[h.lo];exact hup),l,aP (by rw[h.li];exact aC _),h.li,cK];rfl
 ·by_cases f:k<i
  ·exact FV (h.no k f hn) _
  ·obtain rfl:k=i:=by omega
   rw[w hn]at eo;rw[w hn];exact eo
 ·by_cases f:k<i
  ·obtain⟨m,hm⟩:=h.yes k f p;exact⟨m,hm.ext rfl rfl rfl (by rw[h.li];exact f)⟩
  ·obtain rfl:k=i:=by omega
   obtain⟨m,-,hm⟩:=q p;exact⟨m,hm⟩
 ·dsimp only at v p;rcases NR v with c|⟨c,-⟩
  ·rcases NR p with aa|⟨-,rfl⟩
   ·exact h.mono a b x y ad c aa u
   ·have:=h.lt a x c;have:=ab u;omega
  ·rw[h.lo]at c;have h1:=(List.getElem?_eq_some_iff.1 p).1;rw[aI,h.lo,cN]at h1;omega
 ·dsimp only at v⊢;rcases NR v with c|⟨-,rfl⟩
  ·have:=h.lt a x c;omega
  ·exact hlt
theorem Arr.run{E:List Fl}(hup:∀x<E.length,(aH E x).up<x):∀k≤E.length,Arr E k (foldI (bI E) 0 k kO)
 |0,_=>⟨rfl,rfl,fun i h=>by omega,fun i h=>by omega,fun i h=>by omega,fun i j o o' _ h=>by cases i<;>simp[foldI,kO]at h,fun i o h=>by cases i<;>simp[foldI,kO]at h⟩
 | k+1,hk=>by rw[kR,bG];exact(Arr.run hup k (by omega)).step fun x a=>hup x (by omega)
structure Fw (E:List Fl) (R:RS):Prop where
 arr:Arr E E.length R
 lk:∀x<E.length,Lk E x
 pos:0<E.length
 root:(aH E 0).t.op=1∧(aH E 0).up= -1
 ups:∀x,0<x→x<E.length→0≤(aH E x).up∧(aH E x).t.op≠1
 nest:∀x,0<x→x<E.length→(aH E x).last≤(aH E (aH E x).up.toNat).last∧x≤(aH E x).last
inductive Anc (E:List Fl) (o:Nat):Nat→Prop
 |par {j:Nat}:(aH E j).up=(o:Int)→Anc E o j
 |up {j p:Nat}:(aH E j).up=(p:Int)→Anc E o p→Anc E o j
theorem KS{E:List Fl}{x:Nat}{e:Fl}(h:E[x]? =some e):aH E x=e:=by unfold aH;rw[h];rfl
section
variable{E:List Fl}{R:RS}
theorem Fw.lk'(hw:Fw E R){x:Nat}(a:x<E.length):(aH E x).num=(if(aH E x).t.op=4 then jZ (E.take x)+1 else 0)∧(0≤(aH E x).up→(aH E x).up<x∧(aH E x).fn=if(aH E (aH E x).up.toNat).t.op=4 then(aH E (aH E x).up.toNat).num else(aH E (aH E x).up.toNat).fn)∧((aH E x).up<0→(aH E x).fn=0):=by
 obtain⟨e,he,h⟩:=hw.lk x a;rw[KS he];exact h
theorem Fw.par(hw:Fw E R){x:Nat}(h0:0<x)(a:x<E.length):∃p:Nat,(aH E x).up=(p:Int)∧p<x∧((aH E x).fn:Int)=fnO E p:=by
 have h1:=(hw.ups x h0 a).1;obtain⟨-,h2,-⟩:=hw.lk' a;obtain⟨h3,h4⟩:=h2 h1;refine⟨(aH E x).up.toNat,by omega,by omega,?_⟩;unfold fnO;rw[h4];split<;>rfl
theorem Fw.in0(hw:Fw E R):inN R 0= -1:=by
 unfold inN;rw[hw.arr.hin 0 hw.pos,hw.root.2];rfl
theorem Fw.tQ(hw:Fw E R){x p:Nat}(a:x<E.length)(b:(aH E x).up=(p:Int)):inN R x=if opN R p<0∨((aH E p).t.op=21∧(aH E x).kid=0)then inN R p else opN R p:=by
 unfold inN opN;rw[hw.arr.hin x a,b];unfold inG;rw[if_pos (by omega),aG];rfl
theorem Fw.opens(hw:Fw E R){x:Nat}(a:x<E.length):(opN R x= -1∧(nmE E x).2<0)∨∃m:Nat,opN R x=m∧kI E R x m∧¬(nmE E x).2<0:=by
 by_cases h:(nmE E x).2<0
 ·refine .inl ⟨?_,h⟩;unfold opN;rw[hw.arr.no x a h];rfl
 ·obtain⟨m,hm⟩:=hw.arr.yes x a h;refine .inr ⟨m,?_,hm,h⟩;unfold opN;rw[hm.1];rfl
theorem kI.op{i m:Nat}(h:kI E R i m):opN R i=m:=by unfold opN;rw[h.1];rfl
theorem aDw{x:Nat}(h4:(aH E x).t.op=4):nmE E x=(JV E x,1):=by
 unfold nmE;dsimp only;rw[if_neg (by omega),if_pos h4]
theorem aPq{t:T}(h:jC t=true):t.op=4:=by
 unfold jC at h;rw[aM]at h;exact of_decide_eq_true h.1
theorem Fw.inj(hw:Fw E R){o p m:Nat}(h1:kI E R o m)(h2:kI E R p m):o=p:=by
 rcases Nat.lt_trichotomy o p with h|h|h
 ·have:=hw.arr.mono o p _ _ h h1.1 h2.1 (by omega);omega
 ·exact h
 ·have:=hw.arr.mono p o _ _ h h2.1 h1.1 (by omega);omega
theorem aP3(x:Nat):(nmE E x).2≤4:=by
 have hs:∀(l:List Bd) (k:Int),k≤4→(kT l k).2≤4:=fun l k hk=>by
  unfold kT;split
  ·exact(by decide:(-1:Int)≤4)
  ·exact hk
 unfold nmE;dsimp only;repeat' split
 all_goals first|exact hs _ _ (by decide)|(dsimp only;omega)
theorem Fw.chain(hw:Fw E R){o mo x p:Nat}(ho:kI E R o mo)(f:x<E.length)(i:(aH E x).up=(p:Int))(g:p<x)(hc:kN R.L mo (inN R x)):(o=p∧inN R x=(mo:Int))∨kN R.L mo (inN R p):=by
 have hi:=hw.tQ f i;by_cases c:opN R p<0∨((aH E p).t.op=21∧(aH E x).kid=0)
 ·rw[if_pos c]at hi;rw[hi]at hc;exact .inr hc
 ·rw [if_neg c]at hi;rcases hw.opens (x:=p) (by omega)with h|⟨m,hm,e,-⟩
  ·exact absurd (.inl (by omega)) c
  rw[hm]at hi;rw[hi]at hc;cases hc with
  |here=>exact .inl ⟨hw.inj ho e,hi⟩
  | up h0 b hlt hne h=>
    rw[aG,e.2.2]at b;cases b;dsimp only at h;by_cases hs:jC (aH E p).t=true
    ·rw [if_pos hs]at h;obtain⟨h1,h2⟩:=e.2.1 hs;have b:∀a:Int,a=(m:Int)-1→kN R.L mo a→kN R.L mo (inN R p):=fun a j h=>by
      cases h with
      | here=>
        obtain rfl:mo=m-1:=by omega
        have h3:=ho.2.2;rw[h2]at h3;injection h3 with h3
        have h4:=congrArg Sc.kind h3;have h5:=aP3 (E:=E) o;dsimp only at h4;omega
      | up h0 b hlt hne h=>
        rw[show a.toNat=m-1 by omega,h2]at b;cases b;exact h
     exact .inr (b _ rfl h)
    ·rw[if_neg hs]at h;exact .inr h
theorem Fw.anc(hw:Fw E R){a:Nat}:∀(j:Nat),j<E.length→kN R.L a (inN R j)→∃o m,o<j∧Anc E o j∧kI E R o m∧(a=m∨(jC (aH E o).t=true∧a+1=m)):=by
 intro j;induction j using Nat.strongRecOn with
 | ind j ih=>
   intro l hc;by_cases h0:j=0
   ·subst h0;rw[hw.in0]at hc;have:=hc.uS.1;omega
   obtain⟨p,f,e,-⟩:=hw.par (by omega) l;have hi:=hw.tQ l f;have next:kN R.L a (inN R p)→∃o m,o<j∧Anc E o j∧kI E R o m∧(a=m∨(jC (aH E o).t=true∧a+1=m)):=fun h=>by obtain⟨o,m,h1,h2,h3⟩:=ih p e (by omega) h;exact⟨o,m,by omega,.up f h2,h3⟩
   by_cases i:opN R p<0∨((aH E p).t.op=21∧(aH E j).kid=0)
   ·rw[if_pos i]at hi;rw[hi]at hc;exact next hc
   ·rw [if_neg i]at hi;rcases hw.opens (x:=p) (by omega)with h|⟨m,hm,g,-⟩
    ·exact absurd (.inl (by omega)) i
    rw[hm]at hi;rw[hi]at hc
    have fin:∀b:Int,b=(m:Int)→kN R.L a b→∃o m,o<j∧Anc E o j∧kI E R o m∧(a=m∨(jC (aH E o).t=true∧a+1=m)):=fun b hb h=>by
     cases h with
     |here=>exact⟨p,m,e,.par f,g,.inl (by omega)⟩
     | up h0 c hlt hne h=>
       rw[show b.toNat=m by omega,g.2.2]at c;cases c;dsimp only at h;by_cases hs:jC (aH E p).t=true
       ·rw [if_pos hs]at h;obtain⟨h1,h2⟩:=g.2.1 hs;have c:∀b:Int,b=(m:Int)-1→kN R.L a b→a+1=m∨kN R.L a (inN R p):=fun b hb h=>by
         cases h with
         |here=>exact .inl (by omega)
         | up h0 c hlt hne h=>
           rw[show b.toNat=m-1 by omega,h2]at c;cases c;exact .inr h
        rcases c _ rfl h with h|h
        ·exact⟨p,m,e,.par f,g,.inr ⟨hs,h⟩⟩
        ·exact next h
       ·rw[if_neg hs]at h;exact next h
    exact fin _ rfl hc
theorem HN{x:ByteArray}:∀{l:List Bd} (k:Nat),x∈l.map (·.name)→∃j,gP x l k=some j
 |[],_,h=>by simp at h
 | b::r,k,h=>by
   unfold gP;by_cases hb:b.name=x
   ·exact⟨k,by rw[if_pos hb]⟩
   ·rw[if_neg hb];refine HN (k+1) ?_;rw[aL,aR]at h;exact h.resolve_left fun h=>hb h.symm
theorem ZG{l:List Sc}{a:Nat}{c:Sc}(h:l[a]? =some c):oB l a=c.fn:=by unfold oB;rw[h];rfl
theorem Fw.aOl(hw:Fw E R){y:ByteArray}:∀(j:Nat),j<E.length→∀(f a b:Nat),findF R.L y f (inN R j)=some (a,b)→(∀g,Anc E g j→(aH E g).t.op=4→(aH E g).num=(aH E j).fn→y∈(JV E g).map (·.name))→oB R.L a=((aH E j).fn:Int):=by
 intro j;induction j using Nat.strongRecOn with
 | ind j ih=>
   intro u f a b hf hg;by_cases h0:j=0
   ·subst h0;rw[hw.in0,oH (by omega)]at hf;cases hf
   obtain⟨p,q,o,c⟩:=hw.par (by omega) u;have hi:=hw.tQ u q;have next:∀f,(aH E p).t.op≠4→findF R.L y f (inN R p)=some (a,b)→oB R.L a=((aH E j).fn:Int):=fun f h4 h=>by
    have e:(aH E j).fn=(aH E p).fn:=by unfold fnO at c;rw[if_neg h4]at c;omega
    rw[e];exact ih p o (by omega) f a b h fun g h1 h2 h3=>hg g (.up q h1) h2 (by omega)
   rcases hw.opens (x:=p) (by omega)with⟨h,hn⟩|⟨m,hm,r,hn⟩
   ·rw[if_pos (.inl (by omega))]at hi;rw[hi]at hf;exact next f (fun h4=>by rw[aDw h4]at hn;exact absurd hn (by dsimp only;omega)) hf
   by_cases l:(aH E p).t.op=21∧(aH E j).kid=0
   ·rw[if_pos (.inr l)]at hi;rw[hi]at hf;exact next f (by omega) hf
   rw[if_neg (by rintro(h|h);omega;exact l h),hm]at hi;rw[hi]at hf;have hlen:=(List.getElem?_eq_some_iff.1 r.2.2).1;cases f with
   |zero=>cases hf
   | succ f=>
     rw[mY ⟨by omega,by omega⟩ (by rw[aG];exact r.2.2)]at hf;cases i:gP y (nmE E p).1 0 with
     | some k=>
       rw[i]at hf;dsimp only at hf;rw[aG]at hf;injection hf with hf
       injection hf with h1 h2
       subst h1;rw[ZG r.2.2,c]
     | none=>
       rw[i]at hf;dsimp only at hf;have h4:(aH E p).t.op≠4:=fun h4=>by obtain⟨k,hk⟩:=HN 0 (hg p (.par q) h4 (by unfold fnO at c;rw[if_pos h4]at c;omega));rw[aDw h4,hk]at i;cases i
       have hs:¬jC (aH E p).t=true:=fun h=>h4 (aPq h);rw[if_neg hs]at hf;split at hf
       ·cases hf
       ·exact next f h4 hf
end
end
section
open Go.RowKit Go.Vcg
def Qd(op:Int):Prop:=op≠1∧op≠2∧op≠3∧op≠22
theorem kC{k:T}(h:bT k=true):Qd k.op:=by
 unfold bT at h;split at h
 ·unfold Qd;omega
 ·simp at h;unfold Qd;omega
theorem JT{is:List Int}{k:T}(h:ofT is k=true)(hi:∀i∈is,Qd i):Qd k.op:=by
 unfold ofT at h;exact hi _ (by simpa using h)
theorem vG{k:T}(h:dC k=true):Qd k.op:=by
 simp[dC,hH]at h;unfold Qd;omega
theorem ZR{k:T}(h:hH k=true):Qd k.op:=by
 simp[hH]at h;unfold Qd;omega
theorem aLi{k:T}{m:Int}(h:gL k m=true):Qd k.op:=by
 unfold gL at h;simp at h;unfold Qd;omega
theorem aLh{k:T}(h:rS k=true):Qd k.op:=by
 simp[rS,eiT]at h;rcases h with h|h
 ·exact vG h
 ·exact JT h (by simp[Qd])
theorem aLg{t k:T}(h:pO t k=true):Qd k.op:=by
 unfold pO at h;split at h
 ·exact kC h
 ·exact JT h (by simp[Qd])
theorem tS{ps:List (T→Bool)}{l:List T}(h:dS (eK ps) l=true)(hq:∀p∈ps,∀k,p k=true→Qd k.op):∀k∈l,Qd k.op:=fun k hk=>by
 obtain⟨p,b,a⟩:=CC h k hk;exact hq p b k a
theorem aLj{rs:List ((T→Bool)×Int)}{l:List T}(h:dS rs l=true)(hq:∀r∈rs,∀k,r.1 k=true→Qd k.op):∀k∈l,Qd k.op:=fun k hk=>by
 obtain⟨r,hr,a⟩:=nI _ _ h k hk;exact hq r hr k a
theorem JJ{p:T→Bool}{a b:Int}{l:List T}(h:jL p a b l=true)(hq:∀k,p k=true→Qd k.op):∀k∈l,Qd k.op:=fun k hk=>hq k (xI h k hk)
theorem aLf{l:List T}(h:decide (l.length=0)=true):∀k∈l,Qd k.op:=fun k hk=>by
 have:l=[]:=bV (by simpa using h);subst this;cases hk
theorem aV4{t:T}(h:exB t=true):∀k∈t.kids,Qd k.op:=by
 unfold exB at h;by_cases ab:t.op=30∨t.op=31∨t.op=32∨t.op=33∨t.op=34∨t.op=35∨t.op=40
 ·rw[if_pos ab]at h;exact aLf h
 rw[if_neg ab]at h;by_cases aa:t.op=36
 ·rw[if_pos aa]at h;have a:=CD h;intro k hk;obtain⟨i,hi⟩:=List.mem_iff_getElem?.1 hk;have:=a.2 i k hi;unfold EX at this;split at this
  ·unfold Qd;omega
  ·exact kC this
 rw[if_neg aa]at h;by_cases z:t.op=37
 ·rw[if_pos z]at h;refine JJ h fun k hk=>?_;simp[eiT]at hk;rcases hk with hk|hk
  ·exact kC hk
  ·exact JT hk (by simp[Qd])
 rw[if_neg z]at h;by_cases y:t.op=38
 ·rw[if_pos y]at h;exact JJ h fun k hk=>JT hk (by simp[Qd])
 rw[if_neg y]at h;by_cases w:t.op=39
 ·rw[if_pos w]at h;unfold rC at h;have key:∀{q:T→Bool},dS (eK [pO t,q]) t.kids=true→(∀k,q k=true→Qd k.op)→∀k∈t.kids,Qd k.op:=fun h hq=>tS h (by
   intro p a k hk;simp at a;rcases a with rfl|rfl
   ·exact aLg hk
   ·exact hq k hk)
  split at h
  ·exact key h fun k hk=>kC hk
  split at h
  ·exact key h fun k hk=>by simp[DW]at hk;exact aLi hk.1
  split at h
  ·exact key h fun k hk=>by simp[zB]at hk;exact aLi hk.1
  split at h
  ·exact key h fun k hk=>aLi hk
  split at h
  ·refine tS h fun p a k hk=>?_;simp at a;subst a;simp[oK]at hk;unfold Qd;omega
  ·refine tS h fun p a k hk=>?_;simp at a;subst a;exact kC hk
 rw[if_neg w]at h;by_cases v:t.op=41∨t.op=42
 ·rw[if_pos v]at h;refine tS h fun p a k hk=>?_;simp at a;subst a;exact kC hk
 rw[if_neg v]at h;by_cases u:t.op=43
 ·rw[if_pos u]at h;refine tS h fun p a k hk=>?_;simp at a;subst a;exact ZR hk
 rw[if_neg u]at h;by_cases o:t.op=44∨t.op=45∨t.op=52
 ·rw[if_pos o]at h;exact JJ h fun k hk=>kC hk
 rw[if_neg o]at h;by_cases l:t.op=46
 ·rw[if_pos l]at h;split at h
  ·refine tS h fun p a k hk=>?_;simp at a;rcases a with rfl|rfl
   ·exact vG hk
   ·exact kC hk
  ·refine tS h fun p a k hk=>?_;simp at a;rcases a with rfl|rfl
   ·exact ZR hk
   ·exact kC hk
 rw[if_neg l]at h;by_cases j:t.op=47
 ·rw[if_pos j]at h;exact JJ h fun k hk=>kC hk
 rw[if_neg j]at h;by_cases g:t.op=48
 ·rw[if_pos g]at h;exact JJ h fun k hk=>kC hk
 rw[if_neg g]at h;by_cases f:t.op=49∨t.op=50
 ·rw[if_pos f]at h;refine aLj h fun r hr k hk=>?_;simp at hr;rcases hr with rfl|rfl
  ·exact kC hk
  ·simp[GS,eiT]at hk;rcases hk with hk|hk
   ·exact kC hk
   ·exact JT hk (by simp[Qd])
 rw[if_neg f]at h;by_cases e:t.op=51
 ·rw[if_pos e]at h;exact JJ h fun k hk=>kC hk
 rw[if_neg e]at h;by_cases c:t.op=53
 ·rw[if_pos c]at h;unfold sM at h;split at h
  ·rename_i k ad;intro x hx;rw[ad]at hx;simp at hx;subst hx;have hc:=CD h;have hl:iC x=true:=by cases hc<;>assumption
   simp[iC]at hl;unfold Qd;omega
  ·cases h
 rw[if_neg c]at h;by_cases b:t.op=54
 ·rw[if_pos b]at h;exact JJ h fun k hk=>kC hk
 rw[if_neg b]at h
 ·unfold iA at h;split at h
  ·refine aLj h fun r hr k hk=>?_;simp at hr;rcases hr with rfl|rfl
   ·simp[eiT]at hk;rcases hk with hk|hk
    ·exact aLh hk
    ·exact JT hk (by simp[Qd])
   ·exact JT hk (by simp[Qd])
  split at h
  ·refine aLj h fun r hr k hk=>?_;simp at hr;rcases hr with rfl|rfl<;>exact JT hk (by simp[Qd])
  split at h
  ·refine tS h fun p a k hk=>?_;simp at a;rcases a with rfl|rfl
   ·exact aLg hk
   ·exact aLh hk
  split at h
  ·refine tS h fun p a k hk=>?_;simp at a;rcases a with rfl|rfl
   ·exact vG hk
   ·exact kC hk
  split at h
  ·refine tS h fun p a k hk=>?_;simp at a;subst a;exact vG hk
  ·cases h
def Qk(op:Int):Prop:=op≠1∧op≠3∧op≠22
theorem Qd.k{o:Int}(h:Qd o):Qk o:=⟨h.1,h.2.2.1,h.2.2.2⟩
theorem Qd.m{o:Int}(h:Qd o):o≠1∧o≠3:=⟨h.1,h.2.2.1⟩
theorem Qk.m{o:Int}(h:Qk o):o≠1∧o≠3:=⟨h.1,h.2.1⟩
def PtB(k:T):Prop:=k.op=34∨k.op=51∨k.op=52∨k.op=60∨k.op=61∨k.op=62∨k.op=63∨k.op=64∨k.op=7∨k.op=40
theorem PtB.d{k:T}(h:PtB k):Qd k.op:=by unfold PtB at h;unfold Qd;omega
theorem aCm{p:T→Bool}{r:List ((T→Bool)×Int)}{l:List T}(h:dS ((p,0)::r) l=true):∃k l',l=k::l' ∧p k=true∧dS r l' =true:=by
 rw[rK]at h;cases l with
 |nil=>cases h
 | cons k l=>
   dsimp only at h;split at h
   ·rename_i a;exact⟨k,l,rfl,a,h⟩
   ·cases h
theorem wJ{k:T}(h:fN k=true):Qk k.op:=by
 simp[fN]at h;unfold Qk;split at h<;>omega
theorem uG{k:T}(h:dC k=true):PtB k:=by
 simp[dC,hH]at h;unfold PtB;omega
theorem QM{is:List Int}{k:T}(h:ofT is k=true)(hi:∀i∈is,i=34∨i=60∨i=61∨i=62∨i=63∨i=64∨i=7∨i=40):PtB k:=by
 unfold ofT at h;have:=hi k.op (by simpa using h);unfold PtB;omega
theorem aDo{k:T}(h:rS k=true):PtB k:=by
 simp[rS,eiT]at h;rcases h with h|h
 ·exact uG h
 ·exact QM h (by simp)
structure Vj (t:T):Prop where
 no:t.op=7∨t.op=40∨t.op=34→t.kids=[]
 st:t.op=1∨t.op=6∨t.op=22∨t.op=23→∀k∈t.kids,Qk k.op
 vs:t.op=2→∀k∈t.kids,k.op=3
 dc:t.op=3→∃a r,t.kids=a::r∧PtB a∧∀k∈r,Qd k.op
 pa:t.op=5∨t.op=60∨t.op=61∨t.op=64→∀k∈t.kids,PtB k
 ifs:t.op=9→∃a r,t.kids=a::r∧Qd a.op∧∀k∈r,Qk k.op
 for4:t.op=10→∃a b c d,t.kids=[a,b,c,d]∧Qk a.op∧Qd b.op∧Qd c.op∧Qk d.op
 for3:t.op=11∨t.op=12→∃a b c,t.kids=[a,b,c]∧Qk a.op∧Qd b.op∧Qk c.op
 wh:t.op=13→∃a b,t.kids=[a,b]∧Qd a.op∧Qk b.op
 do_:t.op=14→∃a b,t.kids=[a,b]∧Qk a.op∧Qd b.op
 ct:t.op=20→∃a b,t.kids=[a,b]∧PtB a∧b.op=6
 sw:t.op=21→∃a r,t.kids=a::r∧Qd a.op∧∀k∈r,k.op=22
 pp:t.op=62→∃a b,t.kids=[a,b]∧Qd a.op∧PtB b
 df:t.op=63→∃a b,t.kids=[a,b]∧PtB a∧Qd b.op
 lb:t.op=23→∃a,t.kids=[a]
 rs:t.op=64→∃a,t.kids=[a]
 ot:1≤t.op→t.op≠1→t.op≠2→t.op≠4→t.op≠6→¬(9≤t.op∧t.op≤14)→t.op≠20→t.op≠21→t.op≠22→t.op≠23→∀k∈t.kids,Qd k.op
theorem aTb{t:T}{d:Nat}{s:Bool}(h:Rt t d s):Vj t:=by
 have hk:bD t=true:=by cases h;assumption
 have two:∀{a b:T→Bool},dS (eK [a,b]) t.kids=true→∃x y,t.kids=[x,y]∧a x=true∧b y=true:=fun h=>by obtain⟨x,r,h1,q,h2⟩:=iU h;obtain⟨y,r2,h3,l,h5⟩:=iU h2;have h6:=rJ h5;subst h6 h3;exact⟨x,y,h1,q,l⟩
 refine⟨fun o=>?_,fun o=>?_,fun o=>?_,fun o=>?_,fun o=>?_,fun o=>?_,fun o=>?_,fun o=>?_,fun o=>?_,fun o=>?_,fun o=>?_,fun o=>?_,fun o=>?_,fun o=>?_,fun o=>?_,fun o=>?_,?_⟩
 ·rcases o with o|o|o
  ·unfold bD stB at hk;simp[o]at hk;exact hk
  ·unfold bD exB at hk;simp[o]at hk;exact hk
  ·unfold bD exB at hk;simp[o]at hk;exact hk
 ·intro k f;rcases o with o|o|o|o
  ·unfold bD stB at hk;simp[o]at hk;exact wJ (xI hk k f)
  ·unfold bD stB at hk;simp[o]at hk;exact wJ (xI hk k f)
  ·unfold bD stB at hk;simp[o]at hk;split at hk
   ·exact wJ (xI hk k f)
   ·obtain⟨r,hr,e⟩:=nI _ _ hk k f;simp at hr;rcases hr with rfl|rfl
    ·exact(kC e).k
    ·exact wJ e
  ·unfold bD stB at hk;simp[o]at hk;obtain⟨p,hr,e⟩:=CC hk k f;simp at hr;subst hr;exact wJ e
 ·intro k f;unfold bD stB at hk;simp[o]at hk;have:=xI hk k f;simpa[ofT]using this
 ·unfold bD stB at hk;simp[o]at hk;obtain⟨a,r,h1,h2,h3⟩:=aCm hk;refine⟨a,r,h1,uG h2,fun k hk=>?_⟩;obtain⟨r,hr,e⟩:=nI _ _ h3 k hk;simp at hr;subst hr;exact kC e
 ·intro k f;have of64:∀{k:T},ofT [64] k=true→PtB k:=fun h=>QM h (by simp);rcases o with o|o|o|o
  ·unfold bD stB at hk;simp[o]at hk;obtain⟨r,hr,e⟩:=nI _ _ hk k f;simp at hr;rcases hr with rfl|rfl
   ·simp[eiT]at e;rcases e with e|e
    ·exact uG e
    ·exact QM e (by simp)
   ·exact of64 e
  ·unfold bD exB iA at hk;simp[o]at hk;obtain⟨r,hr,e⟩:=nI _ _ hk k f;simp at hr;rcases hr with rfl|rfl
   ·simp[eiT]at e;rcases e with e|e
    ·exact aDo e
    ·exact QM e (by simp)
   ·exact of64 e
  ·unfold bD exB iA at hk;simp[o]at hk;obtain⟨r,hr,e⟩:=nI _ _ hk k f;simp at hr;rcases hr with rfl|rfl
   ·exact QM e (by simp)
   ·exact of64 e
  ·unfold bD exB iA at hk;simp[o]at hk;obtain⟨p,hr,e⟩:=CC hk k f;simp at hr;subst hr;exact uG e
 ·unfold bD stB at hk;simp[o]at hk;obtain⟨a,r,h1,h2,h3⟩:=aCm hk;refine⟨a,r,h1,kC h2,fun k hk=>?_⟩;obtain⟨r,hr,e⟩:=nI _ _ h3 k hk;simp at hr;rcases hr with rfl|rfl<;>exact wJ e
 ·unfold bD stB at hk;simp[o]at hk;obtain⟨a,r,h1,g,h2⟩:=iU hk;obtain⟨b,r2,h3,hb,h4⟩:=iU h2;obtain⟨c,r3,h5,hc,h6⟩:=iU h4;obtain⟨d,r4,v,hd,u⟩:=iU h6;have i:=rJ u;subst i v h5 h3;have e7:∀{k:T},eiT [bT,ofT [7]] k=true→Qd k.op:=fun{k} h=>by
   simp[eiT]at h;rcases h with h|h
   ·exact kC h
   ·exact JT h (by simp[Qd])
  exact⟨a,b,c,d,h1,by simp[ofT]at g;unfold Qk;omega,e7 hb,e7 hc,wJ hd⟩
 ·have hk:dS (eK [rR,bT,fN]) t.kids=true:=by rcases o with o|o<;>(unfold bD stB at hk;simp[o]at hk;exact hk)
  obtain⟨a,r,h1,g,h2⟩:=iU hk;obtain⟨b,r2,h3,hb,h4⟩:=iU h2;obtain⟨c,r3,h5,hc,h6⟩:=iU h4;have i:=rJ h6;subst i h5 h3;refine⟨a,b,c,h1,?_,kC hb,wJ hc⟩;simp[rR]at g;rcases g with g|g
  ·exact(vG g).k
  ·unfold Qk;omega
 ·unfold bD stB at hk;simp[o]at hk;obtain⟨a,b,h1,h2,h3⟩:=two hk;exact⟨a,b,h1,kC h2,wJ h3⟩
 ·unfold bD stB at hk;simp[o]at hk;obtain⟨a,b,h1,h2,h3⟩:=two hk;exact⟨a,b,h1,wJ h2,kC h3⟩
 ·unfold bD stB at hk;simp[o]at hk;obtain⟨a,b,h1,h2,h3⟩:=two hk;refine⟨a,b,h1,?_,by simpa[ofT]using h3⟩;simp[eiT]at h2;rcases h2 with h2|h2
  ·exact uG h2
  ·exact QM h2 (by simp)
 ·unfold bD stB at hk;simp[o]at hk;obtain⟨a,r,h1,h2,h3⟩:=aCm hk;refine⟨a,r,h1,kC h2,fun k hk=>?_⟩;obtain⟨r,hr,e⟩:=nI _ _ h3 k hk;simp at hr;subst hr;simpa[ofT]using e
 ·unfold bD exB iA at hk;simp[o]at hk;obtain⟨a,b,h1,h2,h3⟩:=two hk;exact⟨a,b,h1,aLg h2,aDo h3⟩
 ·unfold bD exB iA at hk;simp[o]at hk;obtain⟨a,b,h1,h2,h3⟩:=two hk;exact⟨a,b,h1,uG h2,kC h3⟩
 ·unfold bD stB at hk;simp[o]at hk;obtain⟨a,r,h1,g,h2⟩:=iU hk;have i:=rJ h2;subst i;exact⟨a,h1⟩
 ·unfold bD exB iA at hk;simp[o]at hk;obtain⟨a,r,h1,g,h2⟩:=iU hk;have i:=rJ h2;subst i;exact⟨a,h1⟩
 ·intro o0 o1 o2 o4 o6 o9 o20 o21 o22 o23;by_cases j:t.op≤23
  ·unfold bD stB at hk;rw[if_pos j,if_neg (by omega),if_neg o2]at hk;by_cases c3:t.op=3
   ·rw[if_pos c3]at hk;intro k f;obtain⟨r,hr,e⟩:=nI _ _ hk k f;simp at hr;rcases hr with rfl|rfl
    ·exact vG e
    ·exact kC e
   rw[if_neg c3,if_neg o4]at hk;by_cases c5:t.op=5
   ·rw[if_pos c5]at hk;intro k f;obtain⟨r,hr,e⟩:=nI _ _ hk k f;simp at hr;rcases hr with rfl|rfl
    ·simp[eiT]at e;rcases e with e|e
     ·exact vG e
     ·exact JT e (by simp[Qd])
    ·exact JT e (by simp[Qd])
   rw[if_neg c5]at hk;by_cases c7:t.op=7∨t.op=15∨t.op=16
   ·rw[if_pos c7]at hk;exact aLf hk
   rw[if_neg c7]at hk;by_cases c8:t.op=8∨t.op=18
   ·rw[if_pos c8]at hk;refine tS hk fun p e k hk=>?_;simp at e;subst e;exact kC hk
   rw[if_neg c8,if_neg (by omega),if_neg (by omega),if_neg (by omega),if_neg (by omega),if_neg (by omega)]at hk;by_cases c17:t.op=17
   ·rw[if_pos c17]at hk;exact JJ hk fun k hk=>kC hk
   rw[if_neg c17,if_neg o20,if_neg o21,if_neg o22]at hk;by_cases c19:t.op=19
   ·rw[if_pos c19]at hk;unfold PE at hk;rw[aM]at hk;refine tS hk.1 fun p e k hk=>?_;simp at e;rcases e with rfl|rfl|rfl<;>exact JT hk (by simp[Qd])
   ·exfalso;omega
  ·unfold bD at hk;rw[if_neg j]at hk;exact aV4 hk
theorem AtG.lt{E:List Fl}{n:Nat}{t:T}{up:Int}{kid fn i c:Nat}(h:AtG E n t up kid fn i c)(hs:t.size≤n):i+t.size≤E.length:=by
 obtain⟨pre,post,rfl,rfl,rfl⟩:=h;rw[aI,aI,pH n t _ _ _ _ _ hs];omega
section
variable(E:List Fl)(R:RS)
def IsD(d:Nat)(y:ByteArray):Prop:=(aH E d).t.op=3∧y∈bB (cQ (aH E d).t 0)
def PK(d:Nat):Bool:= !decide ((aH E (aH E d).up.toNat).t.n=0)
def Res(d:Nat)(y:ByteArray)(o m b:Nat):Prop:=d<E.length∧iD R.L (inN R d) y=some (m,b)∧kI E R o m∧(fD R.L m b=1∨fD R.L m b=2)
structure Inv (i:Nat) (D:List (Nat×ByteArray)) (ρ:Nat→Int) (s:ES):Prop where
 lt:∀p∈D,p.1<i
 rc:∀p∈D,∀o m b,Res E R p.1 p.2 o m b→∃δ∈oA p.2 s.names,δ.lex=PK E p.1∧ρ o∈δ.ins
 pw:D.Pairwise fun p q=>p.2=q.2→∀o m b,Res E R p.1 p.2 o m b→Res E R q.1 q.2 o m b→PK E p.1=false∧PK E q.1=false
def Cov(i j:Nat)(D:List (Nat×ByteArray)):Prop:=∀d y,i≤d→d<j→IsD E d y→(d,y)∈D
def Ok(i j:Nat)(D:List (Nat×ByteArray))(ρ:Nat→Int)(s' :ES):Prop:=∃D' ρ',Inv E R j (D++D') ρ' s' ∧(∀o,o<i→ρ' o=ρ o)∧Cov E i j D'
def Place(i:Nat)(p:EP)(ρ:Nat→Int):Prop:=∀o m,kI E R o m→kN R.L m (inN R i)→fnO E o=((aH E i).fn:Int)→ρ o∈p.regs
def yO(i:Nat)(p:EP)(ρ:Nat→Int)(t:T):Prop:=∀v,(v=t∨(t.op=22∧v∈t.kids))→v.op=2→v.n≠0→∀k∈v.kids,∀y∈bB (cQ k 0),∃o m,kI E R o m∧inN R i=(m:Int)∧y∈(nmE E o).1.map (·.name)∧mB p=[ρ o]
end
section
variable{E:List Fl}{R:RS}
theorem Inv.names{i:Nat}{D:List (Nat×ByteArray)}{ρ:Nat→Int}{s s' :ES}(h:Inv E R i D ρ s)(e:s'.names=s.names):Inv E R i D ρ s' :=⟨h.lt,fun p a o m b hr=>by rw[e];exact h.rc p a o m b hr,h.pw⟩
theorem Inv.le{i j:Nat}{D:List (Nat×ByteArray)}{ρ:Nat→Int}{s:ES}(h:Inv E R i D ρ s)(hij:i≤j):Inv E R j D ρ s:=⟨fun p a=>eU (h.lt p a) hij,h.rc,h.pw⟩
theorem Fw.ZW(hw:Fw E R){o m j:Nat}(ho:kI E R o m)(b:j<E.length)(hc:kN R.L m (inN R j)):o<j:=by
 obtain⟨o',m',h1,-,h3,h4⟩:=hw.anc j b hc;rcases h4 with rfl|⟨hs,h4⟩
 ·rw[hw.inj ho h3];exact h1
 ·exfalso;obtain⟨h5,h6⟩:=h3.2.1 hs;obtain rfl:m=m' -1:=by omega
  have a:=ho.2.2;rw[h6]at a;injection a with a
  have c:=congrArg Sc.kind a;have e:=aP3 (E:=E) o;dsimp only at c;omega
theorem Res.lt(hw:Fw E R){d o m b:Nat}{y:ByteArray}(h:Res E R d y o m b):o<d:=hw.ZW h.2.2.1 h.1 (tK h.2.1)
theorem Inv.rho(hw:Fw E R){i:Nat}{D:List (Nat×ByteArray)}{ρ ρ' :Nat→Int}{s:ES}(h:Inv E R i D ρ s)(e:∀o,o<i→ρ' o=ρ o):Inv E R i D ρ' s:=⟨h.lt,fun p a o m b hr=>by
 rw[e o (by have:=hr.lt hw;have:=h.lt p a;omega)];exact h.rc p a o m b hr,h.pw⟩
theorem Ok.trans{i j k:Nat}{D:List (Nat×ByteArray)}{ρ:Nat→Int}{s1 s2:ES}(hij:i≤j)(h1:Ok E R i j D ρ s1)(h2:∀D1 ρ1,Inv E R j D1 ρ1 s1→(∀o,o<i→ρ1 o=ρ o)→Ok E R j k D1 ρ1 s2):Ok E R i k D ρ s2:=by
 obtain⟨D1,ρ1,a1,a2,a3⟩:=h1;obtain⟨D2,ρ2,b1,b2,b3⟩:=h2 _ _ a1 a2;refine⟨D1++D2,ρ2,by rw[←bA];exact b1,fun o ho=>by rw[b2 o (by omega),a2 o ho],fun d y h1 h2 h3=>?_⟩;by_cases hd:d<j
 ·exact cC _ (a3 d y h1 hd h3)
 ·exact dG _ (b3 d y (by omega) h2 h3)
theorem Ok.skip{i j:Nat}{D:List (Nat×ByteArray)}{ρ:Nat→Int}{s:ES}(h:Inv E R i D ρ s)(hij:i≤j)(hn:∀d,i≤d→d<j→(aH E d).t.op≠3):Ok E R i j D ρ s:=⟨[],ρ,by rw[eD];exact h.le hij,fun _ _=>rfl,fun d y h1 h2 h3=>absurd h3.1 (hn d h1 h2)⟩
theorem Ok.rho(hw:Fw E R){i j:Nat}{D:List (Nat×ByteArray)}{ρ ρ' :Nat→Int}{s:ES}(h:Ok E R i j D ρ' s){i0:Nat}(hi:i0≤i)(e:∀o,o<i0→ρ' o=ρ o)(hc:∀d,i0≤d→d<i→(aH E d).t.op≠3):Ok E R i0 j D ρ s:=by
 obtain⟨D',ρ2,a1,a2,a3⟩:=h;refine⟨D',ρ2,a1,fun o ho=>by rw[a2 o (by omega),e o ho],fun d y h1 h2 h3=>?_⟩;by_cases hd:i≤d
 ·exact a3 d y hd h2 h3
 ·exact absurd h3.1 (hc d h1 (by omega))
theorem Place.rho(hw:Fw E R){i:Nat}(hi:i<E.length){p:EP}{ρ ρ' :Nat→Int}(h:Place E R i p ρ)(e:∀o,o<i→ρ' o=ρ o):Place E R i p ρ' :=fun o m ho hc hf=>by
 rw[e o (hw.ZW ho hi hc)];exact h o m ho hc hf
theorem Place.kid(hw:Fw E R){i x:Nat}{p q:EP}{ρ ρ' :Nat→Int}(h:Place E R i p ρ)(c:x<E.length)(hu:(aH E x).up=(i:Int))(a:i<x)(h4:(aH E i).t.op≠4)(e:∀o,o<i→ρ' o=ρ o)(hr:∀m,kI E R i m→ρ' i∈q.regs)(hs:∀r,r∈p.regs→r∈q.regs):Place E R x q ρ' :=fun o m ho hc hf=>by
 have b:(aH E x).fn=(aH E i).fn:=by obtain⟨-,h2,-⟩:=hw.lk' c;obtain⟨-,h3⟩:=h2 (by omega);rw[hu,aG,if_neg h4]at h3;exact h3
 rcases hw.chain ho c hu a hc with⟨rfl,-⟩|h1
 ·exact hr m ho
 ·have hlt:=hw.ZW ho (by omega) h1;rw[e o hlt];exact hs _ (h o m ho h1 (by rw[hf,b]))
theorem sS(hw:Fw E R){i m:Nat}(hi:i<E.length)(h:(nmE E i).2<0):¬kI E R i m:=fun ho=>by
 have h1:=hw.arr.no i hi h;rw[ho.1]at h1;injection h1 with h1
 omega
theorem IS{i:Nat}(h:¬((aH E i).t.op=1∨(aH E i).t.op=4∨(aH E i).t.op=6∨(aH E i).t.op=21∨(aH E i).t.op=10∨(aH E i).t.op=11∨(aH E i).t.op=12∨(aH E i).t.op=20)):(nmE E i).2<0:=by
 rw[zP rfl (by omega)];exact(by decide:(-1:Int)<0)
theorem KQ{n:Nat}{g:ES→T→ES}(hg:∀s k,s.e≠0→(g s k).e≠0){pa fn:Nat}{ρ0:Nat→Int}:∀(ks:List T) (j i c:Nat) (s:ES) (D:List (Nat×ByteArray)) (ρ:Nat→Int),(∀k∈ks,k.size≤n)→qF E n ks (pa:Int) j fn i c→pa<i→Inv E R i D ρ s→(∀o,o≤pa→ρ o=ρ0 o)→
 (∀k∈ks,∀(jj x c:Nat) (s:ES) D ρ,j≤jj→AtG E n k (pa:Int) jj fn x c→pa<x→Inv E R x D ρ s→(∀o,o≤pa→ρ o=ρ0 o)→(g s k).e=0→Ok E R x (x+k.size) D ρ (g s k))→(ks.foldl g s).e=0→Ok E R i (i+szs ks) D ρ (ks.foldl g s)
 | [],j,i,c,s,D,ρ,_,_,_,hI,_,_,_=>Ok.skip hI (Nat.le_add_right ..) fun d h1 h2=>by rw[show szs []=0 from rfl]at h2;omega
 | k::r,j,i,c,s,D,ρ,hk,hA,l,hI,a,hs,he=>by rw[bX]at he⊢;have e1:(g s k).e=0:=Decidable.byContradiction fun h=>pV hg r _ h he;have h1:=hs k (aE ..) j i c s D ρ (aC _) hA.hd l hI a e1;rw[bK,←cW];refine h1.trans (Nat.le_add_right ..) fun D1 ρ1 f b=>?_;exact KQ hg r (j+1) _ _ _ D1 ρ1 (fun k h=>hk k (bP h)) (hA.tl (hk k (aE ..))) (by omega) f (fun o ho=>by rw[b o (by omega),a o ho]) (fun k h jj x c s D ρ p=>hs k (bP h) jj x c s D ρ (by omega)) he
end
end
end Go.Proofs.YtlllalmkkaolfaaGreatDoor
