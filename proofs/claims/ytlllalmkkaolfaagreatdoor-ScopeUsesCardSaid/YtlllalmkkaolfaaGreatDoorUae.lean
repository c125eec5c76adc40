/- Package early: the checker's own blocks, places and declarations in memory. -/
import Derived.Test.YtlllalmkkaolfaaGreatDoorUad
import Derived.RangeFuncLeaves
import Derived.OwnWalkIn
import Derived.RangeFuncCalls
import Derived.OrdersIn
import Derived.Test.YtlllalmkkaolfaaGreatDoorShelf
import Derived.KernelRfl
set_option maxRecDepth 20000
set_option maxHeartbeats 2000000
namespace Go.Vcg
open Go.RowKit
theorem gB:∀L:List Bk,Sel L L
 |[]=>.nil _
 |x::r=>fA (kZ.refl x) (gB r)
theorem bY{L' L:List Bk}(y:Bk)(h:Sel L' L):Sel L' (y::L):=by
 induction h with
 |nil L=>exact .nil _
 |cons h hr ih=>exact Sel.cons (a:=y::_) h ih
end Go.Vcg
namespace Go.Proofs.YtlllalmkkaolfaaGreatDoor
section
open Go.RowKit Go.Vcg Go.MapKept
abbrev aCf(i:Int):List Value:=[.int .i64 i]
def IsV(μ:Mem)(v:Value)(xs:List Int):Prop:=∃A c,v=.slice A xs.length c∧Sl aCf 1 μ A xs.length xs∧xs.length≤c
def SsV(μ:Mem)(v:Value)(xs:List ByteArray):Prop:=∃A c,v=.slice A xs.length c∧Sl mZ 1 μ A xs.length xs∧xs.length≤c
theorem IsV.mono{μ μ' :Mem}{v:Value}{xs:List Int}(h:IsV μ v xs)(hle:MLe μ μ'):IsV μ' v xs:=by
 obtain⟨A,c,e,h1,h2⟩:=h;exact⟨A,c,e,h1.mono hle,h2⟩
theorem SsV.mono{μ μ' :Mem}{v:Value}{xs:List ByteArray}(h:SsV μ v xs)(hle:MLe μ μ'):SsV μ' v xs:=by
 obtain⟨A,c,e,h1,h2⟩:=h;exact⟨A,c,e,h1.mono hle,h2⟩
theorem IsV.one{μ:Mem}{v:Value}{xs:List Int}(h:IsV μ v xs):v.oneCell' =true:=by obtain⟨A,c,rfl,-⟩:=h;rfl
theorem SsV.one{μ:Mem}{v:Value}{xs:List ByteArray}(h:SsV μ v xs):v.oneCell' =true:=by obtain⟨A,c,rfl,-⟩:=h;rfl
theorem IsV.nil(μ:Mem):IsV μ (.slice none 0 0) []:=⟨none,0,rfl,Sl.nil _ _ _ _,aC _⟩
theorem SsV.nil(μ:Mem):SsV μ (.slice none 0 0) []:=⟨none,0,rfl,Sl.nil _ _ _ _,aC _⟩
abbrev nL(p:EP)(r lb lo mi:Value):List Value:=[.bool p.strict,.bool p.gen,.bool p.fn,.bool p.head,r,lb,lo,.bool p.loop,.bool p.choice,mi,.bool p.own,.bool p.each]
def PV(μ:Mem)(p:EP)(v:Value):Prop:=∃r lb lo mi,v=.agg (nL p r lb lo mi).toArray∧IsV μ r p.regs∧SsV μ lb p.labels∧SsV μ lo p.loops∧SsV μ mi p.mine
theorem PV.mono{μ μ' :Mem}{p:EP}{v:Value}(h:PV μ p v)(hle:MLe μ μ'):PV μ' p v:=by
 obtain⟨r,lb,lo,mi,e,h1,h2,h3,h4⟩:=h;exact⟨r,lb,lo,mi,e,h1.mono hle,h2.mono hle,h3.mono hle,h4.mono hle⟩
abbrev vF(d:ED×Value):List Value:=[.bool d.1.lex,d.2,.int .i64 d.1.par,.bool d.1.twice]
structure FR where
 (key:ByteArray) (v:Value) (ds:List (ED×Value))
abbrev OB(f:FR):Bk:=.inr ⟨f.v,131,4,f.ds.length,f.ds.flatMap vF⟩
def nW(fs:List FR):List Bk:=fs.map OB
def mkD:List FR→Nat→List MapEntry
 |[],_=>[]
 |f::r,j=>MapEntry.mk (.string f.key) f.v j::mkD r (j+1)
def zZ(x:ByteArray):List FR→Nat→Option (Nat×FR)
 |[],_=>none
 |f::r,i=>if x=f.key then some (i,f)else zZ x r (i+1)
def nmD(fs:List FR):List (ByteArray×List ED):=fs.map fun f=>(f.key,f.ds.map (·.1))
def EB(xb mb:Nat)(s:ES)(fs:List FR):List Bk:=.inl ⟨xb,95,4,[(0,.map (some mb)),(1,.int .i64 (s.regs:Int)),(2,.int .i64 s.at'),(3,.int .i64 s.e)]⟩::.mp ⟨mb,mkD fs 0,fs.length⟩::nW fs
def ER(μ:Mem)(fs:List FR)(s:ES):Prop:=s.names=nmD fs∧∀f∈fs,∀d∈f.ds,IsV μ d.2 d.1.ins∧d.1.ins.length≤100000
theorem ER.mono{μ μ' :Mem}{fs:List FR}{s:ES}(h:ER μ fs s)(hle:MLe μ μ'):ER μ' fs s:=⟨h.1,fun f hf d hd=>⟨(h.2 f hf d hd).1.mono hle,(h.2 f hf d hd).2⟩⟩
def CEs(f:FuncId)(args:List Value)(xb mb:Nat)(s s' :ES)(μ:Mem):Prop:=∀(w:World) (fs:List FR),MOk μ w→ER μ fs s→Go.Vcg.Own μ (EB xb mb s fs) w→
 Calls Tryz.prog f args.toArray w fun e w' =>∃(v:Value) (μ' :Mem) (i:List FR),e=.returned v∧mW (lH (EB xb mb s fs)) w w' μ (EB xb mb s' i) μ' ∧ER μ' i s'
def CEr(f:FuncId)(args:List Value)(xb mb:Nat)(s s' :ES)(μ:Mem)(R:Mem→Value→Prop):Prop:=∀(w:World) (fs:List FR),MOk μ w→ER μ fs s→Go.Vcg.Own μ (EB xb mb s fs) w→
 Calls Tryz.prog f args.toArray w fun e w' =>∃(v:Value) (μ' :Mem) (i:List FR),e=.returned v∧mW (lH (EB xb mb s fs)) w w' μ (EB xb mb s' i) μ' ∧(ER μ' i s' ∧R μ' v)
theorem aE1(xb mb:Nat)(s:ES)(fs:List FR):EB xb mb s fs=.inl ⟨xb,95,4,[(0,.map (some mb)),(1,.int .i64 (s.regs:Int)),(2,.int .i64 s.at'),(3,.int .i64 s.e)]⟩::.mp ⟨mb,mkD fs 0,fs.length⟩::nW fs:=rfl
section
variable{X:Ctx}{ops:Array Oper}{Q:Exit→Act→World→Prop}{rest:List Oper}{μ:Mem}{l:bS}{L Lr:List Bk}{o:Oper}{d:Nat}{f:FuncId}{args:List Value}{xb mb:Nat}{s s' :ES}{fs:List FR}
theorem jP(k:Nat)(hd:o.dst=some d)(hn:Nat.blt d X.n=true)(hw:iF ops l o=some true)(hr:Ent Tryz.prog μ l L o f args.toArray)(hL:splitB k L=some (Lr,EB xb mb s fs))(a:ER μ fs s)(hc:CEs f args xb mb s s' μ)
 (h:∀(v:Value) (μ' :Mem) (i:List FR),MLe μ μ' →ER μ' i s' →G Tryz.prog X ops Q rest μ' ((d,v)::l) (Lr++EB xb mb s' i)):G Tryz.prog X ops Q (o::rest) μ l L:=
 qV (Ls:=fun i=>EB xb mb s' i) (Post:=fun μ' _ i=>ER μ' i s') k hd hn hw hr hL (fun w hμ b=>hc w fs hμ a b) h
theorem ZA{R:Mem→Value→Prop}(k:Nat)(hd:o.dst=some d)(hn:Nat.blt d X.n=true)(hw:iF ops l o=some true)(hr:Ent Tryz.prog μ l L o f args.toArray)(hL:splitB k L=some (Lr,EB xb mb s fs))(b:ER μ fs s)(hc:CEr f args xb mb s s' μ R)
 (h:∀(v:Value) (μ' :Mem) (i:List FR),MLe μ μ' →ER μ' i s' →R μ' v→G Tryz.prog X ops Q rest μ' ((d,v)::l) (Lr++EB xb mb s' i)):G Tryz.prog X ops Q (o::rest) μ l L:=
 qV (Ls:=fun i=>EB xb mb s' i) (Post:=fun μ' v i=>ER μ' i s' ∧R μ' v) k hd hn hw hr hL (fun w hμ c=>hc w fs hμ b c) fun v μ' i hle a=>h v μ' i hle a.1 a.2
end
theorem IsV.nH{μ:Mem}{v:Value}{n:Nat}{ys:List Value}{t:TypeId}{xs:List Int}(h:Bk.sh (.inr ⟨v,t,1,n,ys⟩) μ)(hn:n=xs.length)(a:ys=xs.flatMap aCf):IsV μ v xs:=by
 subst hn a;obtain⟨A,c,e,b⟩:=tM (enc:=aCf) (xs:=xs) h rfl (by simp) rfl;subst e;exact⟨A,c,rfl,b,Bk.cap h⟩
theorem SsV.nH{μ:Mem}{v:Value}{n:Nat}{ys:List Value}{t:TypeId}{xs:List ByteArray}(h:Bk.sh (.inr ⟨v,t,1,n,ys⟩) μ)(hn:n=xs.length)(a:ys=xs.flatMap mZ):SsV μ v xs:=by
 subst hn a;obtain⟨A,c,e,b⟩:=tM (enc:=mZ) (xs:=xs) h rfl (by simp) rfl;subst e;exact⟨A,c,rfl,b,Bk.cap h⟩
theorem aCy(x y:ByteArray):(x==y)=decide (x=y):=by
 by_cases h:x=y
 ·subst h;rw[decide_eq_true rfl];show(x.data==x.data)=true
  exact beq_self_eq_true _
 ·rw[decide_eq_false h];show(x.data==y.data)=false
  refine beq_false_of_ne fun e=>h ?_;obtain⟨a⟩:=x;obtain⟨b⟩:=y;dsimp only at e;rw[e]
theorem NX(x:ByteArray):∀(fs:List FR) (j i:Nat),Instr.findNow .string (.string x) (mkD fs j) i=some ((zZ x fs i).map fun p=>(p.1,p.2.v))
 |[],j,i=>by simp[mkD,Instr.findNow,zZ]
 | f::r,j,i=>by
   have ih:=NX x r (j+1) (i+1);unfold mkD Instr.findNow zZ;by_cases h:x=f.key
   ·rw[←h];simp[Instr.sameNow,aCy]
   ·simp[Instr.sameNow,aCy,h,ih]
theorem aD0:∀(fs:List FR) (f:FR) (j:Nat),mkD (fs++[f]) j=mkD fs j++[MapEntry.mk (.string f.key) f.v (j+fs.length)]
 |[],f,j=>by simp[mkD]
 | g::r,f,j=>by have:=aD0 r f (j+1);simp only[aU,mkD,this,bH];rw[show j+1+r.length=j+ (r.length+1)by omega]
theorem FN{x:ByteArray}:∀{fs:List FR} {i p:Nat} {f:FR},zZ x fs i=some (p,f)→i≤p∧fs[p-i]? =some f∧f.key=x
 |[],_,_,_,h=>by cases h
 | g::r,i,p,f,h=>by
   unfold zZ at h;split at h
   ·rename_i a;cases h;exact⟨aC _,by rw[cK];rfl,a.symm⟩
   ·obtain⟨h1,h2,h3⟩:=FN h;refine⟨by omega,?_,h3⟩;rw[show p-i=(p- (i+1))+1 by omega,bW];exact h2
theorem aDz:∀(fs:List FR) (j p:Nat) (f g:FR),fs[p]? =some f→g.key=f.key→(mkD fs j).modify p (fun e=>{ e with key:=.string g.key,val:=g.v })=mkD (fs.set p g) j∧((mkD fs j)[p]?).map (·.key)=some (.string g.key)
 |[],j,p,f,g,h,_=>by simp at h
 | a::r,j,0,f,g,h,hk=>by cases h;simp[mkD,hk]
 | a::r,j,p+1,f,g,h,hk=>by rw[bW]at h;obtain⟨e1,e2⟩:=aDz r (j+1) p f g h hk;simp only[mkD,kX,List.modify_succ_cons,e1,bW,e2,and_self]
theorem NT{x:ByteArray}:∀{fs:List FR} {i:Nat},oA x (nmD fs)=match zZ x fs i with|some (_,f)=>f.ds.map (·.1)|none=>[]
 |[],_=>rfl
 | g::r,i=>by
   have ih:=NT (x:=x) (fs:=r) (i:=i+1);unfold nmD at ih⊢;simp only[aL,oA,zZ];split
   ·rfl
   ·exact ih
theorem XB{x:ByteArray}{l:List ED}:∀{fs:List FR} {i p:Nat} {f:FR} {v:Value} {ds:List (ED×Value)},zZ x fs i=some (p,f)→l=ds.map (·.1)→wX x l (nmD fs)=nmD (fs.set (p-i) ⟨f.key,v,ds⟩)
 |[],_,_,_,_,_,h,_=>by cases h
 | g::r,i,p,f,v,ds,h,hl=>by
   unfold zZ at h;unfold nmD;simp only[aL,wX];split at h
   ·rename_i a;cases h;rw[if_pos a,cK,jI,aL,hl]
   ·rename_i a;obtain⟨h1,-,-⟩:=FN h;have ih:=XB (v:=v) (ds:=ds) h hl;unfold nmD at ih;rw[if_neg a,show p-i=(p- (i+1))+1 by omega,kX,aL,ih]
theorem XC{x:ByteArray}{l:List ED}:∀{fs:List FR} {i:Nat} {v:Value} {ds:List (ED×Value)},zZ x fs i=none→l=ds.map (·.1)→wX x l (nmD fs)=nmD (fs++[⟨x,v,ds⟩])
 |[],_,_,_,_,hl=>by simp[nmD,wX,hl]
 | g::r,i,v,ds,h,hl=>by
   unfold zZ at h;unfold nmD;simp only[aL,wX];split at h
   ·cases h
   ·rename_i a;have ih:=XC (v:=v) (ds:=ds) h hl;unfold nmD at ih;rw[if_neg a,aU,aL,ih]
theorem aKy(fs:List FR)(f:FR):nW (fs++[f])=nW fs++[OB f]:=by unfold nW;rw[bJ];rfl
theorem aKx{fs:List FR}{i:Nat}{f:FR}(h:fs[i]? =some f):(nW fs)[i]? =some (OB f):=by unfold nW;rw[aX,h];rfl
theorem aKt(fs:List FR)(i:Nat)(f:FR):nW (fs.set i f)=(nW fs).set i (OB f):=by unfold nW;rw[jS]
theorem aKw(fs:List FR):(nW fs).length=fs.length:=aO ..
end
section
open Go.RowKit Go.Vcg
theorem yM(c:Bool)(a e:Int)(s:ES):(iX c a e s).names=s.names:=by unfold iX;split<;>rfl
theorem aHh(c:Bool)(a e:Int)(s:ES):(iX c a e s).regs=s.regs:=by unfold iX;split<;>rfl
attribute [local irreducible] nW mkD G GC GQ GA eV Calls IntKind.wrap Int.decLt Int.decLe
theorem rP(xb mb:Nat)(t:T)(u:Value)(hu:u.oneCell' =true)(c:Bool)(e:Int)(s:ES)(μ:Mem):
 CEs 106 [.pointer (some ⟨xb,0,none⟩),.agg (cO t u).toArray,.int .i64 e,.bool c] xb mb s (iX c t.at' e s) μ:=by
 intro w fs hμ o l;have a:=dW l.diff;have f:∀μ',MLe μ μ' →ER μ' fs (iX c t.at' e s):=fun μ' hle=>⟨by rw[yM];exact o.1,(o.mono hle).2⟩;generalize g:iX c t.at' e s=s' at f⊢;unfold EB at l a;show Calls _ _ _ _ (fun e w' =>∃(v:Value) (μ' :Mem) (i:List FR),e=.returned v∧mW (lH (.inl ⟨xb,95,4,[(0,.map (some mb)),(1,.int .i64 (s.regs:Int)),(2,.int .i64 s.at'),(3,.int .i64 s.e)]⟩::.mp ⟨mb,mkD fs 0,fs.length⟩::nW fs)) w w' μ (EB xb mb s' i) μ' ∧ER μ' i s')
 refine cI Tryz.func106 rfl Tryz.ntmps106 (by simp) hμ l ?_;by_cases hc:c=true
 ·subst hc;by_cases he:s.e=0
  ·have h2:s' ={ s with at' :=t.at',e:=e }:=by rw[←g,iX,if_pos ⟨rfl,he⟩]
   subst h2;try repeat' (first|refine KZ ?_|refine NB fun b=>?_)
   refine UH (l' :=[]) (L' :=EB xb mb { s with at' :=t.at',e:=e } fs) PU (by unfold EB;exact eB (.cells PU) (eB (.refl _) (bY _ (gB _)))) ?_;exact zH 0 fs (.inr rfl) a rfl rfl rfl (fun μ' _ hle=>f μ' hle)
  ·have h2:s' =s:=by rw[←g,iX,if_neg (fun h=>he h.2)]
   subst h2;try repeat' (first|refine KZ ?_|refine NB fun b=>?_)
   refine UH (l' :=[]) (L' :=EB xb mb s' fs) PU (by unfold EB;exact eB (.cells PU) (eB (.refl _) (bY _ (gB _)))) ?_;exact zH 0 fs (.inr rfl) a rfl rfl rfl (fun μ' _ hle=>f μ' hle)
 ·have h2:s' =s:=by rw[←g,iX,if_neg (fun h=>hc h.1)]
  subst h2;have j:c=false:=by simpa using hc
  subst j;try repeat' (first|refine KZ ?_|refine NB fun b=>?_)
  refine UH (l' :=[]) (L' :=EB xb mb s' fs) PU (by unfold EB;exact eB (.cells PU) (eB (.refl _) (bY _ (gB _)))) ?_;exact zH 0 fs (.inr rfl) a rfl rfl rfl (fun μ' _ hle=>f μ' hle)
end
end Go.Proofs.YtlllalmkkaolfaaGreatDoor
namespace Go.Vcg
open Go.RowKit
section
variable{P:Program}{X:Ctx}{μ:Mem}{l:bS}{L:List Bk}
variable{ty:TypeId}{pos:String}{af:Array Edge}{gd:Option (Nat×Bool)}{ds:Option Nat}
theorem aQl{p q:Operand}{t t2:TypeId}{k:IntKind}{x y:Int}(hx0:ev l p=some (.int k x))(hx1:ev l q=some (.int k y)):Val P μ l L ⟨ds,.binOp .and t p q t2,ty,pos,af,gd⟩ (.int k (k.wrap ((BitVec.ofInt k.bits x&&& BitVec.ofInt k.bits y).toNat:Int))):=
 fun a w hs=>by have e0:=hs.eval hx0;have e1:=hs.eval hx1;generalize a.eval=ρ at e0 e1;simp[execOp,e0,e1,eqGuard,binOp,Op.intBits]
end
end Go.Vcg
namespace Go.Proofs.YtlllalmkkaolfaaGreatDoor
section
open Go.RowKit Go.Vcg
theorem aHu{P:Program}{μ:Mem}{l:bS}{L:List Bk}{ty:TypeId}{pos:String}{af:Array Edge}{gd:Option (Nat×Bool)}{ds:Option Nat}{p q:Operand}{t t2:TypeId}{x y:Int}(hx0:ev l p=some (.int .i64 x))(hx1:ev l q=some (.int .i64 y)):Val P μ l L ⟨ds,.binOp .and t p q t2,ty,pos,af,gd⟩ (.int .i64 (anI x y)):=aQl hx0 hx1
theorem aKm:∀l:List Int,(l.flatMap aCf).length=l.length
 |[]=>rfl
 | x::r=>by have:=aKm r;simp only[bU,aI,bH,bM,this];omega
theorem RQ:∀l:List ByteArray,(l.flatMap mZ).length=l.length
 |[]=>rfl
 | x::r=>by have:=RQ r;simp only[bU,aI,bH,bM,this];omega
theorem aIz(l:List Int):∀u∈l.flatMap aCf,u.oneCell' =true:=fun u hu=>by
 obtain⟨b,-,hb⟩:=List.mem_flatMap.1 hu;simp at hb;subst hb;rfl
theorem MQ(l:List ByteArray):∀u∈l.flatMap mZ,u.oneCell' =true:=fun u hu=>by
 obtain⟨b,-,hb⟩:=List.mem_flatMap.1 hu;simp at hb;subst hb;rfl
attribute [local irreducible] anI EB nW mkD G GC GQ GA eV Calls IntKind.wrap Int.decLt Int.decLe
theorem aAa(n k:Int)(w:World)(μ:Mem)(hμ:MOk μ w):bC 137 #[.int .i64 n,.int .i64 k] w (.bool (pS n k)):=by
 have hb:pS n k=(decide (0≤n)&&decide (anI n k≠0)):=rfl;refine aF Tryz.func137 rfl Tryz.ntmps137 (by simp) hμ ?_;try repeat' (first|refine KO ?_|(refine KV (b:=by((with_reducible apply aHu);exact rfl;exact rfl)) (c:=?_))|refine KZ ?_|(refine KB ?_ ?_<;>intro a))
 all_goals refine aQ rfl rfl (congrArg _ ?_)
 all_goals rw[hb]
 all_goals first|(simp_all;done)|(simp_all;intro;omega)
theorem VB(w:World)(μ:Mem)(hμ:MOk μ w)(l:List Int)(v:Value)(hv:IsV μ v l)(hl:l.length≤1000000):Calls Tryz.prog 140 #[v] w (sZ w 3 1 l.length (l.flatMap aCf)):=by
 obtain⟨A,c,rfl,f,hcap⟩:=hv;refine aF Tryz.func140 rfl Tryz.ntmps140 (by simp) hμ ?_;have h1:=aIz l;have h2:=aKm l;cases A with
 | none=>
   have h0:l=[]:=by
    cases l with
    |nil=>rfl
    | cons x r=>
      obtain⟨a,e,_⟩:=f.2 (by simp);cases e
   subst h0;try repeat' (first|refine KO ?_|(refine KV (b:=by((with_reducible apply JW);exact rfl;exact rfl)) (c:=?_)))
   exact RM 3 1 (qI 0 rfl rfl rfl)
 | some ad=>
   try repeat' (first|(with_reducible apply aJ9 1)|refine KO ?_|(((with_reducible apply qA);(iterate 3 exact rfl);(repeat with_reducible exact fO);(iterate 6 exact rfl);(((with_reducible apply aAo);exact rfl;exact f;simp));omega;(assumption);omega;omega;intro v))|(refine KV (b:=by((with_reducible apply JW);exact rfl;exact rfl)) (c:=?_))|refine KZ ?_|refine NB fun b=>?_)
   simp only[bG,aY];exact qI 0 rfl rfl rfl
theorem CG(w:World)(μ:Mem)(hμ:MOk μ w)(l:List ByteArray)(v:Value)(hv:SsV μ v l)(hl:l.length≤1000000):Calls Tryz.prog 108 #[v] w (sZ w 9 1 l.length (l.flatMap mZ)):=by
 obtain⟨A,c,rfl,f,hcap⟩:=hv;refine aF Tryz.func108 rfl Tryz.ntmps108 (by simp) hμ ?_;have h1:=MQ l;have h2:(l.flatMap mZ).length=l.length:=RQ l;cases A with
 | none=>
   have h0:l=[]:=by
    cases l with
    |nil=>rfl
    | cons x r=>
      obtain⟨a,e,_⟩:=f.2 (by simp);cases e
   subst h0;try repeat' (first|refine KO ?_|(refine KV (b:=by((with_reducible apply JW);exact rfl;exact rfl)) (c:=?_)))
   exact RM 9 1 (qI 0 rfl rfl rfl)
 | some ad=>
   try repeat' (first|(with_reducible apply aJ9 1)|refine KO ?_|(((with_reducible apply qA);(iterate 3 exact rfl);(repeat with_reducible exact fO);(iterate 6 exact rfl);(((with_reducible apply aAo);exact rfl;exact f;simp));omega;(assumption);omega;omega;intro v))|(refine KV (b:=by((with_reducible apply JW);exact rfl;exact rfl)) (c:=?_))|refine KZ ?_|refine NB fun b=>?_)
   simp only[bG,aY];exact qI 0 rfl rfl rfl
theorem HQ(μ:Mem)(p:EP)(pv:Value)(a:PV μ p pv)(hne:0<p.regs.length)(hb:p.regs.length≤1000000):∃v,IsV μ v (mB p)∧∀(w:World) (μ' :Mem),MOk μ' w→MLe μ μ' →bC 102 #[pv] w v:=by
 obtain⟨r,lb,lo,mi,rfl,hr,h2,h3,h4⟩:=a;have o2:=h2.one;have o3:=h3.one;have o4:=h4.one;obtain⟨A,c,rfl,e,hcap⟩:=hr;refine⟨.slice (if c=p.regs.length-1 then A else A.map (·.add ((p.regs.length-1)*1))) (p.regs.length- (p.regs.length-1)) (c- (p.regs.length-1)),⟨_,_,by rw[mB,dA],by rw[mB,dA];exact e.drop (by omega) hcap,by rw[mB,dA];omega⟩,fun w μ' hw hle=>?_⟩;refine aF Tryz.func102 rfl Tryz.ntmps102 (by simp) hw ?_;try repeat' (first|refine KO ?_|(refine KV (b:=by((with_reducible apply lL (p.regs.length-1));(iterate 4 exact rfl);omega;omega)) (c:=?_))|refine KZ ?_|refine NB fun b=>?_)
 exact aQ rfl rfl rfl
end
section
open Go.RowKit Go.Vcg
inductive Sm:T→T→Prop
 |mk (a b:T) (h1:a.op=b.op) (h2:a.n=b.n) (h3:a.m=b.m) (h4:a.s=b.s) (h5:a.kids.length=b.kids.length) (h6:∀(i:Nat) (x y:T),a.kids[i]? =some x→b.kids[i]? =some y→Sm x y):Sm a b
def SmL(l m:List T):Prop:=l.length=m.length∧∀(i:Nat) (x y:T),l[i]? =some x→m[i]? =some y→Sm x y
noncomputable def dB (p:Prop):Bool:= @decide p (Classical.propDecidable p)
theorem aLk{p:Prop}(h:p):dB p=true:= @decide_eq_true p (Classical.propDecidable p) h
theorem aLl{p:Prop}(h:¬p):dB p=false:= @decide_eq_false p (Classical.propDecidable p) h
theorem CD{p:Prop}(h:dB p=true):p:= @of_decide_eq_true p (Classical.propDecidable p) h
theorem ZS{p:Prop}(h:dB p=false):¬p:= @of_decide_eq_false p (Classical.propDecidable p) h
noncomputable def smB (a b:T):Bool:=dB (Sm a b)
noncomputable def aU5 (l m:List T):Bool:=dB (SmL l m)
theorem T.aBy{p:T→Prop}(h:∀t:T,(∀k,k∈t.kids→p k)→p t)(t:T):p t:=by
 have key:∀(n:Nat) (t:T),t.size≤n→p t:=by
  intro n;induction n with
  |zero=>intro t ht;rw[T.size_eq]at ht;omega
  | succ n ih=>
    intro t ht;refine h t fun k hk=>ih k ?_;obtain⟨i,hi⟩:=List.mem_iff_getElem?.1 hk;have:=T.fY hi;omega
 exact key t.size t (aC _)
theorem eT(t:T):t.kids.length<t.size:=by
 rw[T.size_eq];have:∀l:List T,l.length≤(l.map T.size).sum:=fun l=>by
  induction l with
  |nil=>simp
  | cons x l ih=>
    have:=T.size_eq x;simp;omega
 have:=this t.kids;omega
attribute [local irreducible] smB aU5 G GC GQ GA eV Calls IntKind.wrap Int.decLt Int.decLe
end
end Go.Proofs.YtlllalmkkaolfaaGreatDoor
namespace Go.Vcg
open Go.RowKit
def GI(P:Program)(F:Fence)(n:Nat)(X:Ctx)(ops:Array Oper)(Q:Exit→Act→World→Prop)(rest:List Oper)(μ:Mem)(l:bS)(L:List Bk):Prop:=
 ∀a w,St X μ l L a w→wpListIn F n P ops Q rest a w
def GCI(P:Program)(F:Fence)(n:Nat)(X:Ctx)(c:Code)(Q:Exit→Act→World→Prop)(μ:Mem)(l:bS)(L:List Bk):Prop:=
 ∀a w,St X μ l L a w→c.wpIn F n P Q a w
end Go.Vcg
namespace Go.Proofs.YtlllalmkkaolfaaGreatDoor
section
open Go.RowKit Go.Vcg Go.Shelf
def tE:List (List UInt8):=[
 [],
 [80,114,111,103,114,97,109],
 [86,97,114],
 [68,101,99,108],
 [70,117,110,99],
 [80,97,114,97,109,115],
 [66,108,111,99,107],
 [69,109,112,116,121],
 [69,120,112,114],
 [73,102],
 [70,111,114],
 [70,111,114,73,110],
 [70,111,114,79,102],
 [87,104,105,108,101],
 [68,111],
 [66,114,101,97,107],
 [67,111,110,116,105,110,117,101],
 [82,101,116,117,114,110],
 [84,104,114,111,119],
 [84,114,121],
 [67,97,116,99,104],
 [83,119,105,116,99,104],
 [67,97,115,101],
 [76,97,98,101,108],
 [],
 [],
 [],
 [],
 [],
 [],
 [78,117,109],
 [84,101,120,116],
 [66,111,111,108],
 [78,117,108,108],
 [78,97,109,101],
 [84,104,105,115],
 [84,101,109,112,108,97,116,101],
 [65,114,114,97,121],
 [79,98,106,101,99,116],
 [80,114,111,112],
 [72,111,108,101],
 [83,112,114,101,97,100],
 [85,110,97,114,121],
 [85,112,100,97,116,101],
 [66,105,110,97,114,121],
 [76,111,103,105,99],
 [65,115,115,105,103,110],
 [67,111,110,100],
 [83,101,113],
 [67,97,108,108],
 [78,101,119],
 [68,111,116],
 [73,110,100,101,120],
 [67,104,97,105,110],
 [89,105,101,108,100],
 [],
 [],
 [],
 [],
 [],
 [65,114,114,80,97,116],
 [79,98,106,80,97,116],
 [80,97,116,80,114,111,112],
 [68,101,102,97,117,108,116],
 [82,101,115,116]]
def vV(op:Int):List UInt8:=if 0≤op then tE.getD op.toNat []else[]
theorem MV{op:Int}(h:op<0∨65≤op):vV op=[]:=by
 unfold vV;split
 ·have:tE.length=65:=rfl;rw[List.getD_eq_getElem?_getD,dQ (by omega)];rfl
 ·rfl
theorem aI7{k:Nat}{l:List UInt8}(h:tE[k]? =some l):vV (k:Int)=l:=by
 unfold vV;rw[if_pos (by omega),aG,List.getD_eq_getElem?_getD,h];rfl
theorem aF0{op:Int}(h:op=0∨op=24∨op=25∨op=26∨op=27∨op=28∨op=29∨op=55∨op=56∨op=57∨op=58∨op=59):vV op=[]:=by
 rcases h with rfl|rfl|rfl|rfl|rfl|rfl|rfl|rfl|rfl|rfl|rfl|rfl<;>rfl
abbrev aCg(l:List UInt8):List Value:=[.string ⟨l.toArray⟩]
theorem aB2{μ:Mem}{w:World}(hμ:MOk μ w)(o:Obj):∃μ',vI w (w.alloc o) μ μ' ∧μ' w.heap.size=some o:=by
 have hn:∀b,w.heap.size≤b→μ b=none:=fun b hb=>by
  cases h:μ b with
  |none=>rfl
  | some x=>
    have:=(Array.getElem?_eq_some_iff.1 (hμ b x h)).1;omega
 refine⟨fun b=>if b=w.heap.size then some o else μ b,⟨(Below.refl _ w).alloc (aC _) _,fun b x e=>?_,fun b x e=>?_,fun b hb h0=>?_⟩,by simp⟩
 ·have:b≠w.heap.size:=fun e' =>by rw[e',hn _ (aC _)]at e;cases e
  simp[this,e]
 ·by_cases hb:b=w.heap.size
  ·subst hb;simp at e;subst e;exact World.alloc_heap_new w _
  ·simp[hb]at e;have:=hμ b x e;rw[Below.heap_alloc _ _ _ (Array.getElem?_eq_some_iff.1 this).1];exact this
 ·have:b≠w.heap.size:=by omega
  simp[this,h0]
def aC3(ws:List (List UInt8))(μ:Mem)(v:Value):Prop:=∃b,v=.slice (some ⟨b,0,none⟩) ws.length ws.length∧Sl aCg 1 μ (some ⟨b,0,none⟩) ws.length ws
def sO(μ:Mem):Prop:=∀w,MOk μ w→Lib.TabIs Tryz.prog w "strings.asciiSpace" .u8 Lib.asciiSpaceTab
theorem sO.mono{μ μ' :Mem}(h:sO μ)(hle:MLe μ μ'):sO μ' :=fun w hw=>h w (fun b o e=>hw b o (hle b o e))
theorem vZ(s:ByteArray)(ws:List (List UInt8))(hs:Nat.blt s.data.toList.length 4294967281=true)(c:s.data.toList.all (fun b=>Nat.blt b.toNat 128)=true)(hf:Lib.fields s.data.toList=ws)(w:World)(μ:Mem)(hμ:MOk μ w)(f:sO μ):
 Calls Tryz.prog 145 #[.string s] w fun e w' =>∃v μ',e=.returned v∧vI w w' μ μ' ∧aC3 ws μ' v:=by
 refine(Any.strings_Fields_laid Tryz.laysM157 s w (by have h:=Nat.le_of_ble_eq_true hs;rw[gV]at h;exact h) (fun j b hb=>?_) (f w hμ)).mono fun e w' ⟨h1,h2⟩=>?_
 ·have:=eJ.1 c b (aB hb);exact Nat.le_of_ble_eq_true this
 ·subst h2;rw[hf]at h1⊢;obtain⟨μ',hg,hm⟩:=aB2 hμ (.cells (ws.map fun l=>Value.string ⟨l.toArray⟩).toArray (Tryz.laysM157_ren.t 9));refine⟨_,μ',h1,hg,_,rfl,rfl,fun g=>⟨_,rfl,fun i l hl j v a=>?_⟩⟩;match j,a with
  | 0,a=>
    simp at a;subst a;rw[oD,add_lit];exact⟨_,_,_,hm,rfl,by simp[hl]⟩
  |j+1,a=>simp at a
attribute [local irreducible] G GC GQ GA eV Calls IntKind.wrap Int.decLt Int.decLe
theorem aFy(op:Int)(j: -9223372036854775808≤op∧op≤9223372036854775807)(w:World)(μ:Mem)(hμ:MOk μ w)(i:sO μ):
 bC 114 #[.int .i64 op] w (.string ⟨(vV op).toArray⟩):=by
 refine aF Tryz.func114 rfl Tryz.ntmps114 (by simp) hμ ?_;have key:∀(lo n:Nat) (ws:List (List UInt8)),(tE.drop lo).take n=ws→∀k:Nat,k<n→lo+n≤65→∀{μ' :Mem} {b:Nat},Sl aCg 1 μ' (some ⟨b,0,none⟩) ws.length ws→gF μ' ((⟨b,0,none⟩:Addr).add (k*1)) [.string ⟨(vV ((lo+k:Nat):Int)).toArray⟩]:=by
  intro lo n ws h k hk l μ' b g;have hl:tE.length=65:=rfl;have hg:tE[lo+k]? =some tE[lo+k]:=aA (by omega);have hw:ws[k]? =some tE[lo+k]:=by rw[←h,List.getElem?_take_of_lt hk,fP,hg]
  obtain⟨a,e,o⟩:=g.2 (by have:=(List.getElem?_eq_some_iff.1 hw).1;omega);cases e;rw[aI7 hg];exact o k _ hw
 by_cases h1:1≤op∧op≤23
 ·obtain⟨k,rfl⟩:∃k:Nat,op=((1+k:Nat):Int):=⟨(op-1).toNat,by omega⟩;try repeat' (first|refine KO ?_|((with_reducible apply F2 145);exact rfl;exact EN;(exact fun w hw=>vZ _ ((tE.drop 1).take 23) (by kernel_rfl) (by kernel_rfl) (by kernel_rfl) w _ hw i);rintro v2 μ2 f ⟨bf,rfl,g⟩;(have hc:=key 1 23 _ rfl k (by omega) (by omega) g);(rw[show((tE.drop 1).take 23).length=23 from rfl]))|(refine KV (b:=by first|exact U1 k|((with_reducible apply lF);exact rfl;exact rfl;exact hc.at 0 rfl)) (c:=?_))|refine KZ ?_)
  exact MC rfl (by exact cX rfl) rfl
 by_cases h2:30≤op∧op≤54
 ·obtain⟨k,rfl⟩:∃k:Nat,op=((30+k:Nat):Int):=⟨(op-30).toNat,by omega⟩;try repeat' (first|refine KO ?_|((with_reducible apply F2 145);exact rfl;exact EN;(exact fun w hw=>vZ _ ((tE.drop 30).take 25) (by kernel_rfl) (by kernel_rfl) (by kernel_rfl) w _ hw i);rintro v2 μ2 f ⟨bf,rfl,g⟩;(have hc:=key 30 25 _ rfl k (by omega) (by omega) g);(rw[show((tE.drop 30).take 25).length=25 from rfl]))|(refine KV (b:=by first|exact U1 k|((with_reducible apply lF);exact rfl;exact rfl;exact hc.at 0 rfl)) (c:=?_))|refine KZ ?_)
  exact MC rfl (by exact cX rfl) rfl
 by_cases h3:60≤op∧op≤64
 ·obtain⟨k,rfl⟩:∃k:Nat,op=((60+k:Nat):Int):=⟨(op-60).toNat,by omega⟩;try repeat' (first|refine KO ?_|((with_reducible apply F2 145);exact rfl;exact EN;(exact fun w hw=>vZ _ ((tE.drop 60).take 5) (by kernel_rfl) (by kernel_rfl) (by kernel_rfl) w _ hw i);rintro v2 μ2 f ⟨bf,rfl,g⟩;(have hc:=key 60 5 _ rfl k (by omega) (by omega) g);(rw[show((tE.drop 60).take 5).length=5 from rfl]))|(refine KV (b:=by first|exact U1 k|((with_reducible apply lF);exact rfl;exact rfl;exact hc.at 0 rfl)) (c:=?_))|refine KZ ?_)
  exact MC rfl (by exact cX rfl) rfl
 have p:vV op=[]:=by
  by_cases h0:op<0∨65≤op
  ·exact MV h0
  ·exact aF0 (by omega)
 rw[p];try repeat' (first|refine KZ ?_|(refine KB ?_ ?_<;>intro q))
 all_goals exact MC rfl (by exact cX rfl) rfl
end
section
open Go.RowKit Go.Vcg
theorem drop_cons{l:List UInt8}{i:Nat}{b:UInt8}(h:l[i]? =some b):l.drop i=b::l.drop (i+1):=by
 obtain⟨hlt,e⟩:=List.getElem?_eq_some_iff.1 h;rw[←e,List.getElem_cons_drop]
theorem aEu{s:ByteArray}{i:Nat}(h:i<s.size):∃b,(bl s)[i]? =some b∧bAt s i=b.toNat:=by
 have h1:i< (bl s).length:=by rw[EJ];exact h
 have h2:s.data.toList[i]? =some (bl s)[i]:=aA h1;refine⟨(bl s)[i],aA h1,?_⟩;unfold bAt;rw[h2];rfl
def VN(n:Nat):Prop:=97≤n∧n≤122∨65≤n∧n≤90∨n=95∨n=36
instance (n:Nat):Decidable (VN n):=by unfold VN;exact inferInstance
def aAf(n:Nat):Prop:=48≤n∧n≤57
instance (n:Nat):Decidable (aAf n):=by unfold aAf;exact inferInstance
attribute [local irreducible] G GC GQ GA eV Calls IntKind.wrap Int.decLt Int.decLe
end
section
open Go.RowKit Go.Vcg
def aPa(x y:Int):Int:=IntKind.i64.wrap (BitVec.ofInt 64 x&&& BitVec.ofInt 64 y).toNat
theorem aQm{P:Program}{μ:Mem}{l:bS}{L:List Bk}{ds:Option Nat}{ty:TypeId}{pos:String}{af:Array Edge}{gd:Option (Nat×Bool)}{p q:Operand}{t t2:TypeId}{x y:Int}(hx0:ev l p=some (.int .i64 x))(hx1:ev l q=some (.int .i64 y)):Val P μ l L ⟨ds,.binOp .and t p q t2,ty,pos,af,gd⟩ (.int .i64 (aPa x y)):=
 fun a w hs=>by have e0:=hs.eval hx0;have e1:=hs.eval hx1;generalize a.eval=ρ at e0 e1;simp[execOp,e0,e1,eqGuard,binOp,Op.intBits];rfl
def gL(t:T)(m:Int):Bool:=decide (t.op=4)&&decide (aPa t.n m≠0)
def hH(t:T):Bool:=decide (t.op=34)||(decide (t.op=51)||decide (t.op=52))&&decide (t.n=0)
def dC(t:T):Bool:=hH t||decide (t.op=60)||decide (t.op=61)
def iC(t:T):Bool:=decide (t.op=49)||decide (t.op=51)||decide (t.op=52)
def fN(t:T):Bool:=if t.op=4 then gL t 1 else decide (t.op=2)||decide (t.op=21)||decide (t.op=23)||decide (6≤t.op)&&decide (t.op≤19)
def bT(t:T):Bool:=if t.op=4 then !gL t 57 else decide (30≤t.op)&&decide (t.op≤38)||decide (42≤t.op)&&decide (t.op≤54)
def JR(t:T)(n:Nat):Bool:=match t.kids with|k::_=>decide (k.kids.length=n)|[]=>false
def rR(t:T):Bool:=dC t||decide (t.op=2)&&decide (t.kids.length=1)&&JR t 1
def DW(t:T):Bool:=gL t 16&&JR t 0
def JM(t:T):Bool:=match t.kids with|k::_=>(match k.kids with|[x]=>decide (x.op≠64)|_=>false)|[]=>false
def zB(t:T):Bool:=gL t 32&&JM t
def CS(t:T):Bool:=gL t 8
def zN(i:Nat)(c:UInt8):Prop:=VN c.toNat∨i≠0∧aAf c.toNat
def aKj(l:List UInt8):Prop:=l≠[]∧∀(i:Nat) (c:UInt8),l[i]? =some c→zN i c
noncomputable def lI (s:ByteArray):Bool:=dB (aKj (bl s))
noncomputable def oK (t:T):Bool:=decide (t.op=31)&&lI t.s
theorem UP{s:ByteArray}(h:aKj (bl s)):lI s=true:=by unfold lI;exact aLk h
theorem KN{s:ByteArray}(h:¬aKj (bl s)):lI s=false:=by unfold lI;exact aLl h
def tL(f:FuncId)(p:T→Bool):Prop:=∀(t:T) (u:Value) (w:World) (μ:Mem),MOk μ w→KR μ t.kids u→t.size≤100000→t.s.size≤65536→
 bC f #[.agg (cO t u).toArray] w (.bool (p t))
attribute [local irreducible] aPa lI G GC GQ GA eV Calls IntKind.wrap Int.decLt Int.decLe
theorem qP(m:Int):∀(t:T) (u:Value) (w:World) (μ:Mem),MOk μ w→KR μ t.kids u→t.size≤100000→
 bC 147 #[.agg (cO t u).toArray,.int .i64 m] w (.bool (gL t m)):=by
 intro t u w μ hμ hk hs;have ho:=hk.one;refine aF Tryz.func147 rfl Tryz.ntmps147 (by simp) hμ ?_;try repeat' (first|refine KO ?_|(refine KV (b:=by((with_reducible apply aQm);exact rfl;exact rfl)) (c:=?_))|refine KZ ?_|refine NB fun b=>?_|(refine KB ?_ ?_<;>intro a))
 all_goals(refine aQ rfl rfl ?_;simp_all[gL];try omega)
theorem II:tL 126 hH:=by
 intro t u w μ hμ hk hs a;have ho:=hk.one;refine aF Tryz.func126 rfl Tryz.ntmps126 (by simp) hμ ?_;try repeat' (first|refine KZ ?_|refine NB fun b=>?_|(refine KB ?_ ?_<;>intro c))
 all_goals(refine aQ rfl rfl ?_;simp_all[hH];try omega)
theorem IH:tL 127 dC:=by
 intro t u w μ hμ hk hs a;have ho:=hk.one;refine aF Tryz.func127 rfl Tryz.ntmps127 (by simp) hμ ?_;try repeat' (first|refine KO ?_|refine K2 126 (fun w μc hw c=>II t u w μc hw (hk.mono c) hs a) ?_|refine KZ ?_|refine NB fun b=>?_|(refine KB ?_ ?_<;>intro e))
 all_goals(refine aQ rfl rfl ?_;simp_all[dC];try omega)
theorem xA:tL 78 iC:=by
 intro t u w μ hμ hk hs a;have ho:=hk.one;refine aF Tryz.func78 rfl Tryz.ntmps78 (by simp) hμ ?_;try repeat' (first|refine KZ ?_|refine NB fun b=>?_|(refine KB ?_ ?_<;>intro c))
 all_goals(refine aQ rfl rfl ?_;simp_all[iC];try omega)
theorem LM:tL 131 fN:=by
 intro t u w μ hμ hk hs c;have ho:=hk.one;refine aF Tryz.func131 rfl Tryz.ntmps131 (by simp) hμ ?_;try repeat' (first|refine KO ?_|refine K2 147 (fun w μc hw a=>qP 1 t u w μc hw (hk.mono a) hs) ?_|refine KZ ?_|refine NB fun b=>?_|(refine KB ?_ ?_<;>intro e))
 all_goals(refine aQ rfl rfl ?_;simp_all[fN];try omega)
theorem tR:tL 121 bT:=by
 intro t u w μ hμ hk hs c;have ho:=hk.one;refine aF Tryz.func121 rfl Tryz.ntmps121 (by simp) hμ ?_;try repeat' (first|refine KO ?_|refine K2 147 (fun w μc hw a=>qP 57 t u w μc hw (hk.mono a) hs) ?_|refine KZ ?_|refine NB fun b=>?_|(refine KB ?_ ?_<;>intro e))
 all_goals(refine aQ rfl rfl ?_;simp_all[bT];try omega)
theorem XV:tL 159 CS:=by
 intro t u w μ hμ hk hs c;have ho:=hk.one;refine aF Tryz.func159 rfl Tryz.ntmps159 (by simp) hμ ?_;try repeat' (first|refine KO ?_|refine K2 147 (fun w μc hw a=>qP 8 t u w μc hw (hk.mono a) hs) ?_|refine KZ ?_|refine NB fun b=>?_)
 all_goals(refine aQ rfl rfl ?_;simp_all[CS];try omega)
theorem XZ{t:T}{n:Nat}(h:t.kids=[]):JR t n=false:=by unfold JR;rw[h]
theorem BT{t k:T}{r:List T}{n:Nat}(h:t.kids=k::r):JR t n=decide (k.kids.length=n):=by unfold JR;rw[h]
theorem YW:tL 157 DW:=by
 intro t u w μ hμ hk hs p;have ho:=hk.one;obtain⟨A,c,rfl,z,f⟩:=hk.form;have hlen:=eT t;refine aF Tryz.func157 rfl Tryz.ntmps157 (by simp) hμ ?_;have j:∀(w:World) (μc:Mem),MOk μc w→MLe μ μc→bC 147 #[.agg (cO t (.slice A t.kids.length c)).toArray,.int .i64 16] w (.bool (gL t 16)):=fun w μc hw hle=>qP 16 t _ w μc hw (hk.mono hle) hs;by_cases h0:t.kids.length=0
 ·have hg:DW t=false:=by unfold DW;rw[XZ (bV h0),gU]
  rw[hg];try repeat' (first|refine KO ?_|refine K2 147 j ?_|refine KZ ?_|refine NB fun b=>?_|(refine KB ?_ ?_<;>intro q))
  all_goals(refine aQ rfl rfl ?_;simp_all)
 ·obtain⟨k,r,a⟩:=iH (l:=t.kids) (by intro e;rw[e]at h0;exact h0 rfl);obtain⟨ad,x,rfl,hm,v,g⟩:=f 0 k (by rw[a];rfl);obtain⟨A2,c2,rfl,h,-⟩:=g.form;have o:=T.fY (t:=t) (i:=0) (k:=k) (by rw[a];rfl);have y:=eT k;have hg:DW t=(gL t 16&&decide (k.kids.length=0)):=by unfold DW;rw[BT a]
  rw[hg];try repeat' (first|refine KO ?_|refine K2 147 j ?_|(refine KV (b:=by first|exact U1 0|exact U4 hm) (c:=?_))|refine KZ ?_|refine NB fun b=>?_|(refine KB ?_ ?_<;>intro q))
  all_goals(refine aQ rfl rfl ?_;simp_all)
theorem WK{t:T}(h:t.kids=[]):JM t=false:=by unfold JM;rw[h]
theorem aDd{t k:T}{r:List T}(h:t.kids=k::r)(hk:k.kids.length≠1):JM t=false:=by
 unfold JM;rw[h];match hm:k.kids with
 |[]=>simp[hm]
 |[x]=>rw[hm]at hk;exact absurd rfl hk
 |_::_::_=>simp[hm]
theorem WJ{t k x:T}{r:List T}(h:t.kids=k::r)(hk:k.kids=[x]):JM t=decide (x.op≠64):=by
 unfold JM;rw[h];simp only[hk]
theorem WH:tL 158 zB:=by
 intro t u w μ hμ hk hs ae;have ho:=hk.one;obtain⟨A,c,rfl,ah,g⟩:=hk.form;have hlen:=eT t;refine aF Tryz.func158 rfl Tryz.ntmps158 (by simp) hμ ?_;have o:∀(w:World) (μc:Mem),MOk μc w→MLe μ μc→bC 147 #[.agg (cO t (.slice A t.kids.length c)).toArray,.int .i64 32] w (.bool (gL t 32)):=fun w μc hw hle=>qP 32 t _ w μc hw (hk.mono hle) hs;by_cases h0:t.kids.length=0
 ·have hg:zB t=false:=by unfold zB;rw[WK (bV h0),gU]
  rw[hg];try repeat' (first|refine KO ?_|refine K2 147 o ?_|refine KZ ?_|refine NB fun b=>?_|(refine KB ?_ ?_<;>intro q))
  all_goals(refine aQ rfl rfl ?_;simp_all)
 ·obtain⟨k,r,a⟩:=iH (l:=t.kids) (by intro e;rw[e]at h0;exact h0 rfl);obtain⟨ad,x,rfl,hm,af,j⟩:=g 0 k (by rw[a];rfl);obtain⟨A2,c2,rfl,z,f⟩:=j.form;have ab:=T.fY (t:=t) (i:=0) (k:=k) (by rw[a];rfl);have ag:=eT k;by_cases h1:k.kids.length=1
  ·obtain⟨y,p⟩:=List.length_eq_one_iff.1 h1;obtain⟨ad2,x2,rfl,h,v,aa⟩:=f 0 y (by rw[p];rfl);have hg:zB t=(gL t 32&&decide (y.op≠64)):=by unfold zB;rw[WJ a p]
   rw[hg];try repeat' (first|refine KO ?_|refine K2 147 o ?_|(refine KV (b:=by first|exact U1 0|exact U4 hm|exact U4 h) (c:=?_))|refine KZ ?_|refine NB fun b=>?_|(refine KB ?_ ?_<;>intro q))
   all_goals(refine aQ rfl rfl ?_;simp_all)
  ·have hg:zB t=false:=by unfold zB;rw[aDd a h1,gU]
   rw[hg];try repeat' (first|refine KO ?_|refine K2 147 o ?_|(refine KV (b:=by first|exact U1 0|exact U4 hm) (c:=?_))|refine KZ ?_|refine NB fun b=>?_|(refine KB ?_ ?_<;>intro q))
   all_goals(refine aQ rfl rfl ?_;simp_all;try omega)
theorem aF7:tL 133 rR:=by
 intro t u w μ hμ hk hs f;have ho:=hk.one;obtain⟨A,c,rfl,r,e⟩:=hk.form;have hlen:=eT t;refine aF Tryz.func133 rfl Tryz.ntmps133 (by simp) hμ ?_;have j:∀(w:World) (μc:Mem),MOk μc w→MLe μ μc→bC 127 #[.agg (cO t (.slice A t.kids.length c)).toArray] w (.bool (dC t)):=fun w μc hw hle=>IH t _ w μc hw (hk.mono hle) hs f;by_cases h0:t.kids.length=1
 ·obtain⟨k,a⟩:=List.length_eq_one_iff.1 h0;obtain⟨ad,x,rfl,hm,p,g⟩:=e 0 k (by rw[a];rfl);obtain⟨A2,c2,rfl,h,-⟩:=g.form;have l:=T.fY (t:=t) (i:=0) (k:=k) (by rw[a];rfl);have q:=eT k;have hg:rR t=(dC t||decide (t.op=2)&&decide (k.kids.length=1)):=by unfold rR;rw[BT a,h0];simp
  rw[hg];try repeat' (first|refine KO ?_|refine K2 127 j ?_|(refine KV (b:=by first|exact U1 0|exact U4 hm) (c:=?_))|refine KZ ?_|refine NB fun b=>?_|(refine KB ?_ ?_<;>intro o))
  all_goals(refine aQ rfl rfl ?_;simp_all;try omega)
 ·have hg:rR t=dC t:=by unfold rR;rw[decide_eq_false h0];simp
  rw[hg];try repeat' (first|refine KO ?_|refine K2 127 j ?_|refine KZ ?_|refine NB fun b=>?_|(refine KB ?_ ?_<;>intro o))
  all_goals(refine aQ rfl rfl ?_;simp_all;try omega)
theorem HW(s:ByteArray)(hs:s.size≤65536)(w:World)(μ:Mem)(hμ:MOk μ w):
 bC 146 #[.string s] w (.bool (lI s)):=by
 refine aF Tryz.func146 rfl Tryz.ntmps146 (by simp) hμ ?_;try repeat' (refine KZ ?_)
 refine cD (ι:=Nat) (fun i=>i≤s.size∧∀(j:Nat) (c:UInt8),j<i→(bl s)[j]? =some c→zN j c) (fun i=>s.size-i) (fun _=>μ) (fun i=>[(8,.int .i64 i),(7,.int .i64 s.size),(0,.string s)]) (fun _=>[]) 0 ⟨aN _,fun j _ h=>absurd h (by omega)⟩ (fun a w hs=>J6 hs) ?_;rintro i ⟨hi,g⟩;by_cases hlt:i<s.size
 ·obtain⟨c,l,t⟩:=aEu (s:=s) (i:=i) hlt;have r:=c.toNat_lt;have f:zN i c→∀(j:Nat) (d:UInt8),j<i+1→(bl s)[j]? =some d→zN j d:=fun h j d u hd=>by
   rcases dL j i with h1|h1
   ·exact g j d h1 hd
   ·obtain rfl:j=i:=by omega
    rw[l]at hd;cases hd;exact h
  have o:¬zN i c→lI s=false:=fun h=>KN fun hf=>h (hf.2 i c l);by_cases hk:zN i c
  ·have hb:=f hk;unfold zN VN aAf at hk;try repeat' (first|refine KO ?_|(refine KV (b:=by exact U2 i) (c:=?_))|refine KZ ?_|(refine KB ?_ ?_<;>intro q))
   all_goals first
    |exact J4 (i+1) ⟨by omega,hb⟩ (by omega)
    |(exfalso;omega)
  ·rw[o hk];unfold zN VN aAf at hk;try repeat' (first|refine KO ?_|(refine KV (b:=by exact U2 i) (c:=?_))|refine KZ ?_|(refine KB ?_ ?_<;>intro q))
   all_goals first
    |exact aQ rfl rfl rfl
    |(exfalso;omega)
 ·obtain rfl:i=s.size:=by omega
  have p:∀(j:Nat) (c:UInt8),(bl s)[j]? =some c→zN j c:=fun j c hc=>g j c (by have:=(List.getElem?_eq_some_iff.1 hc).1;rw[EJ]at this;exact this) hc;have hg:lI s=decide (s≠⟨#[]⟩):=by
   by_cases h:s=⟨#[]⟩
   ·rw[KN fun hf=>hf.1 (by rw[h]),h];simp
   ·rw[UP ⟨fun e=>h (aCw e),p⟩];simp[h]
  rw[hg];try repeat' (refine KZ ?_)
  exact aQ rfl rfl rfl
theorem aBl:tL 160 oK:=by
 intro t u w μ hμ hk hs a;have ho:=hk.one;refine aF Tryz.func160 rfl Tryz.ntmps160 (by simp) hμ ?_;try repeat' (first|refine KO ?_|refine K2 146 (fun w μc hw c=>HW t.s a w μc hw) ?_|refine KZ ?_|refine NB fun b=>?_|(refine KB ?_ ?_<;>intro e))
 all_goals(refine aQ rfl rfl ?_;simp_all[oK])
end
section
open Go.RowKit Go.Vcg
def Cls(μ:Mem)(v:Value)(p:T→Bool):Prop:=∃(f:FuncId) (cap:List Value),v=.func (.func f) #[] cap.toArray∧jF Tryz.prog f=true∧∀(t:T) (u:Value) (w:World) (μ' :Mem),MOk μ' w→MLe μ μ' →KR μ' t.kids u→t.size≤100000→t.s.size≤65536→
 Calls Tryz.prog f ([Value.agg (cO t u).toArray]++cap).toArray w fun e w' =>e=.returned (.bool (p t))∧Below w.heap.size w w'
theorem Cls.mono{μ μ' :Mem}{v:Value}{p:T→Bool}(h:Cls μ v p)(hle:MLe μ μ'):Cls μ' v p:=by
 obtain⟨f,cap,h1,h2,h3⟩:=h;exact⟨f,cap,h1,h2,fun t u w μ2 hw hl=>h3 t u w μ2 hw (hle.trans hl)⟩
theorem Cls.of{f:FuncId}{p:T→Bool}(h:tL f p)(hf:jF Tryz.prog f=true)(μ:Mem):Cls μ (.func (.func f) #[] #[]) p:=
 ⟨f,[],rfl,hf,fun t u w μ' hw _ hk hs a=>h t u w μ' hw hk hs a⟩
abbrev aEk(x:Int):List Value:=[.int .i64 x]
abbrev aK7(v:Value):List Value:=[v]
def firstT(qs:List Bool):Int:=match qs.findIdx? id with|some i=>i|none=> -1
theorem uJ{qs:List Bool}{k:Nat}(h:qs[k]? =some true)(hn:∀(j:Nat) (q:Bool),j<k→qs[j]? =some q→q=false):firstT qs=k:=by
 have hlt:=(List.getElem?_eq_some_iff.1 h).1;have:qs.findIdx? id=some k:=by
  rw[List.findIdx?_eq_some_iff_getElem];refine⟨hlt,?_,fun j a=>?_⟩
  ·have:=(List.getElem?_eq_some_iff.1 h).2;simp[this]
  ·have:=hn j _ a (aA (by omega));simp[this]
 unfold firstT;rw[this]
theorem qX{qs:List Bool}(hn:∀(j:Nat) (q:Bool),qs[j]? =some q→q=false):firstT qs= -1:=by
 have:qs.findIdx? id=none:=by rw[List.findIdx?_eq_none_iff];intro x a;obtain⟨i,hi⟩:=List.mem_iff_getElem?.1 a;exact hn i x hi
 unfold firstT;rw[this]
theorem sJ(qs:List Bool):decide (0≤firstT qs)=qs.any id:=by
 unfold firstT;cases h:qs.findIdx? id with
 | none=>
   rw[List.findIdx?_eq_none_iff]at h;simp only[show¬(0:Int)≤ -1 by omega,decide_false]
   symm
   rw[List.any_eq_false];intro x a;simpa using h x a
 | some i=>
   rw[List.findIdx?_eq_some_iff_getElem]at h;obtain⟨h1,h2,-⟩:=h;have:(0:Int)≤(i:Int):=by omega
   simp only[this,decide_true]
   symm
   rw[List.any_eq_true];exact⟨qs[i],lZ h1,h2⟩
theorem aO9(is:List Int)(x:Int):(is.map fun y=>decide (x=y)).any id=decide (x∈is):=by
 induction is with
 |nil=>rfl
 |cons y r ih=>simp only[aL,kJ,ih,id_eq,aR,Bool.decide_or]
attribute [local irreducible] G GC GQ GA eV Calls IntKind.wrap Int.decLt Int.decLe
theorem index_spec(x:Int)(is:List Int)(A:Option Addr)(n c:Nat)(w:World)(μ:Mem)(hμ:MOk μ w)(l:Sl aEk 1 μ A n is)(hn:n≤100000):
 bC 172 #[.slice A n c,.int .i64 x] w (.int .i64 (firstT (is.map fun y=>decide (x=y)))):=by
 refine aF Tryz.func172 rfl Tryz.ntmps172 (by simp) hμ ?_;have r:(is.map fun y=>decide (x=y)).length=n:=by rw[aO];exact l.1
 try repeat' (refine KZ ?_)
 refine cD (ι:=Nat) (fun k=>k≤n∧∀(j:Nat) (q:Bool),j<k→(is.map fun y=>decide (x=y))[j]? =some q→q=false) (fun k=>n-k) (fun _=>μ) (fun k=>[(8,.int .i64 k),(7,.int .i64 n),(6,.slice A n c),(0,.slice A n c),(1,.int .i64 x)]) (fun _=>[]) 0 ⟨by omega,fun j _ h=>absurd h (by omega)⟩ (fun a w hs=>J6 hs) ?_;rintro k ⟨hk,hf⟩;by_cases hlt:k<n
 ·have e:(is.map fun y=>decide (x=y))[k]? =some ((is.map fun y=>decide (x=y))[k]'(by omega)):=aA (by omega);generalize (is.map fun y=>decide (x=y))[k]'(by omega)=q at e;have g:q=false→∀(j:Nat) (q:Bool),j<k+1→(is.map fun y=>decide (x=y))[j]? =some q→q=false:=fun h j p t i=>by
   rcases dL j k with h1|h1
   ·exact hf j p h1 i
   ·obtain rfl:j=k:=by omega
    rw[e]at i;cases i;exact h
  obtain⟨ad,y,rfl,o,hm⟩:=l.get hlt;have f:q=decide (x=y):=by rw[aX,o]at e;exact(eC e).symm
  cases hq:q
  ·have hb:=g hq;rw[hq]at f;have hne:¬x=y:=of_decide_eq_false f.symm;try repeat' (first|refine KO ?_|(refine KV (b:=by first|exact U1 k|exact U3 (hm.at 0 rfl)) (c:=?_))|refine KZ ?_)
   all_goals exact J4 (k+1) ⟨by omega,hb⟩ (by omega)
  ·rw[hq]at f e;have he:x=y:=of_decide_eq_true f.symm;try repeat' (first|refine KO ?_|(refine KV (b:=by first|exact U1 k|exact U3 (hm.at 0 rfl)) (c:=?_)))
   all_goals(refine aQ rfl rfl ?_;rw[uJ e hf])
 ·try repeat' (refine KZ ?_)
  refine aQ rfl rfl ?_;rw[qX fun j q hq=>hf j q (by have:=(List.getElem?_eq_some_iff.1 hq).1;omega) hq]
theorem DC(x:Int)(is:List Int)(A:Option Addr)(n c:Nat)(w:World)(μ:Mem)(hμ:MOk μ w)(b:Sl aEk 1 μ A n is)(hn:n≤100000):
 bC 155 #[.slice A n c,.int .i64 x] w (.bool (decide (x∈is))):=by
 refine aF Tryz.func155 rfl Tryz.ntmps155 (by simp) hμ ?_;rw[←aO9,←sJ];try repeat' (first|refine KO ?_|((with_reducible apply C1);exact rfl;exact EN;exact fun w μc hw a=>index_spec x is A n c w μc hw (b.mono a.le) hn))
 exact aQ rfl rfl rfl
theorem YK(f:FuncId)(cap:List Value)(q1:T→Bool)(ks:List T)(A:Option Addr)(n c:Nat)(w:World)(μ:Mem)(hμ:MOk μ w)(af:jF Tryz.prog f=true)(hk:KR μ ks (.slice A n c))(ab:ks.length=n)(ae:∀(t:T) (u:Value) (w:World) (μ' :Mem),t∈ks→MOk μ' w→MLe μ μ' →KR μ' t.kids u→Calls Tryz.prog f ([Value.agg (cO t u).toArray]++cap).toArray w fun e w' =>e=.returned (.bool (q1 t))∧Below w.heap.size w w')(hn:n≤100000):
 bC 170 #[.slice A n c,.func (.func f) #[] cap.toArray] w (.int .i64 (firstT (ks.map q1))):=by
 refine aF Tryz.func170 rfl Tryz.ntmps170 (by simp) hμ ?_;have v:∀(i:Nat) (t:T),ks[i]? =some t→∃a u,A=some a∧gF μ (a.add (i*6)) (cO t u)∧u.oneCell' =true∧KR μ t.kids u:=by obtain⟨A',c',e,_,hg⟩:=hk.form;cases e;exact hg
 have ag:(ks.map q1).length=n:=by rw[aO];exact ab
 try repeat' (refine KZ ?_)
 refine cD (ι:=Nat) (fun k=>k≤n∧∀(j:Nat) (q:Bool),j<k→(ks.map q1)[j]? =some q→q=false) (fun k=>n-k) (fun _=>μ) (fun k=>[(8,.int .i64 k),(7,.int .i64 n),(6,.slice A n c),(0,.slice A n c),(1,.func (.func f) #[] cap.toArray)]) (fun _=>[]) 0 ⟨by omega,fun j _ h=>absurd h (by omega)⟩ (fun a w hs=>J6 hs) ?_;rintro k ⟨hk,hf⟩;by_cases hlt:k<n
 ·have g:(ks.map q1)[k]? =some ((ks.map q1)[k]'(by omega)):=aA (by omega);generalize (ks.map q1)[k]'(by omega)=q at g;have r:q=false→∀(j:Nat) (q:Bool),j<k+1→(ks.map q1)[j]? =some q→q=false:=fun h j p hj z=>by
   rcases dL j k with h1|h1
   ·exact hf j p h1 z
   ·obtain rfl:j=k:=by omega
    rw[g]at z;cases z;exact h
  have l:ks[k]? =some ks[k]:=aA (by omega);generalize ks[k]=t at l;obtain⟨ad,x,rfl,hm,ho,aa⟩:=v k t l;have y:q=q1 t:=by rw[aX,l]at g;exact(eC g).symm
  have hc:=fun w μc hw (hle:MLe μ μc)=>ae t x w μc (aB l) hw hle (aa.mono hle);rw[←y]at hc;cases hq:q
  ·have hb:=r hq;rw[hq]at hc;try repeat' (first|refine KO ?_|((with_reducible apply C1);exact rfl;exact EN;exact fun w μc hw o=>hc w μc hw o.le)|(refine KV (b:=by first|exact U1 k|exact U4 hm) (c:=?_))|refine KZ ?_)
   exact J4 (k+1) ⟨by omega,hb⟩ (by omega)
  ·rw[hq]at hc g;try repeat' (first|refine KO ?_|((with_reducible apply C1);exact rfl;exact EN;exact fun w μc hw o=>hc w μc hw o.le)|(refine KV (b:=by first|exact U1 k|exact U4 hm) (c:=?_)))
   refine aQ rfl rfl ?_;rw[uJ g hf]
 ·try repeat' (refine KZ ?_)
  refine aQ rfl rfl ?_;rw[qX fun j q hq=>hf j q (by have:=(List.getElem?_eq_some_iff.1 hq).1;omega) hq]
theorem YN(f:FuncId)(cap:List Value)(qs:List Bool)(vs:List Value)(A:Option Addr)(n c:Nat)(w:World)(μ:Mem)(hμ:MOk μ w)(x:jF Tryz.prog f=true)(z:Sl aK7 1 μ A n vs)(hone:∀v∈vs,v.oneCell' =true)(r:qs.length=n)(u:∀(i:Nat) (v:Value) (q:Bool) (w:World) (μ' :Mem),vs[i]? =some v→qs[i]? =some q→MOk μ' w→MLe μ μ' →Calls Tryz.prog f ([v]++cap).toArray w fun e w' =>e=.returned (.bool q)∧Below w.heap.size w w')(hn:n≤100000):
 bC 171 #[.slice A n c,.func (.func f) #[] cap.toArray] w (.int .i64 (firstT (qs))):=by
 refine aF Tryz.func171 rfl Tryz.ntmps171 (by simp) hμ ?_;have y:(qs).length=n:=by exact r
 try repeat' (refine KZ ?_)
 refine cD (ι:=Nat) (fun k=>k≤n∧∀(j:Nat) (q:Bool),j<k→(qs)[j]? =some q→q=false) (fun k=>n-k) (fun _=>μ) (fun k=>[(8,.int .i64 k),(7,.int .i64 n),(6,.slice A n c),(0,.slice A n c),(1,.func (.func f) #[] cap.toArray)]) (fun _=>[]) 0 ⟨by omega,fun j _ h=>absurd h (by omega)⟩ (fun a w hs=>J6 hs) ?_;rintro k ⟨hk,hf⟩;by_cases hlt:k<n
 ·have g:(qs)[k]? =some ((qs)[k]'(by omega)):=aA (by omega);generalize (qs)[k]'(by omega)=q at g;have o:q=false→∀(j:Nat) (q:Bool),j<k+1→(qs)[j]? =some q→q=false:=fun h j p hj t=>by
   rcases dL j k with h1|h1
   ·exact hf j p h1 t
   ·obtain rfl:j=k:=by omega
    rw[g]at t;cases t;exact h
  obtain⟨ad,v,rfl,hv,hm⟩:=z.get hlt;have ho:=hone v (aB hv);have hc:=fun w μc hw (hle:MLe μ μc)=>u k v q w μc hv g hw hle;cases hq:q
  ·have hb:=o hq;rw[hq]at hc;try repeat' (first|refine KO ?_|((with_reducible apply C1);exact rfl;exact EN;exact fun w μc hw l=>hc w μc hw l.le)|(refine KV (b:=by first|exact U1 k|exact U3 (hm.at 0 rfl)) (c:=?_))|refine KZ ?_)
   exact J4 (k+1) ⟨by omega,hb⟩ (by omega)
  ·rw[hq]at hc g;try repeat' (first|refine KO ?_|((with_reducible apply C1);exact rfl;exact EN;exact fun w μc hw l=>hc w μc hw l.le)|(refine KV (b:=by first|exact U1 k|exact U3 (hm.at 0 rfl)) (c:=?_)))
   refine aQ rfl rfl ?_;rw[uJ g hf]
 ·try repeat' (refine KZ ?_)
  refine aQ rfl rfl ?_;rw[qX fun j q hq=>hf j q (by have:=(List.getElem?_eq_some_iff.1 hq).1;omega) hq]
end
section
open Go.RowKit Go.Vcg
theorem TI{b t sz i:Nat}{cs:bS}{v:Value}{μ:Mem}(h:Bk.sh (.inl ⟨b,t,sz,cs⟩) μ)(hv:lk cs i=some v):qD μ ⟨b,i,none⟩ v:=
 let ⟨arr,h1,_,h3⟩:=h
 ⟨arr,t,(0,0),h1,rfl,h3 i v hv⟩
theorem aFv{b ty:Nat}{t:T}{u:Value}{cs:bS}{μ:Mem}(h:Bk.sh (.inl ⟨b,ty,6,cs⟩) μ)(hc:LC cs 0 6 (cO t u)):gF μ ⟨b,0,none⟩ (cO t u):=by
 have f:=cR (enc:=AN) (sz:=6) (n:=1) (l:=[(t,u)]) h rfl (by simp) (by simpa using hc);obtain⟨a,e,c⟩:=f.2 (by omega);cases e;exact c 0 (t,u) rfl
def jL(p:T→Bool)(a b:Int)(ks:List T):Bool:=decide (a≤(ks.length:Int))&&(decide (b<0)||decide ((ks.length:Int)≤b))&&ks.all p
theorem aEx(p:T→Bool)(ks:List T):(!(ks.any fun t=> !p t))=ks.all p:=by
 induction ks with
 |nil=>rfl
 |cons k r ih=>simp[kJ,lR,←ih]
def ofT(is:List Int)(t:T):Bool:=decide (t.op∈is)
attribute [local irreducible] G GC GQ GA eV Calls IntKind.wrap Int.decLt Int.decLe
theorem AW(f:FuncId)(cap:List Value)(q1:T→Bool)(ks:List T)(A:Option Addr)(n c:Nat)(w:World)(μ:Mem)(hμ:MOk μ w)(b:jF Tryz.prog f=true)(hk:KR μ ks (.slice A n c))(g:ks.length=n)(i:∀(t:T) (u:Value) (w:World) (μ' :Mem),t∈ks→MOk μ' w→MLe μ μ' →KR μ' t.kids u→Calls Tryz.prog f ([Value.agg (cO t u).toArray]++cap).toArray w fun e w' =>e=.returned (.bool (q1 t))∧Below w.heap.size w w')(hn:n≤100000):
 bC 149 #[.slice A n c,.func (.func f) #[] cap.toArray] w (.bool (ks.any q1)):=by
 refine aF Tryz.func149 rfl Tryz.ntmps149 (by simp) hμ ?_;have h:decide (0≤firstT (ks.map q1))=ks.any q1:=by rw[sJ,jT];rfl
 rw[←h];try repeat' (first|refine KO ?_|((with_reducible apply C1);exact rfl;exact EN;exact fun w μc hw a=>YK f cap q1 ks A n c w μc hw b (hk.mono a.le) g (fun t u w μ' h1 h2 h3 h4=>i t u w μ' h1 h2 (a.le.trans h3) h4) hn))
 exact aQ rfl rfl rfl
theorem OL(f:FuncId)(cap:List Value)(qs:List Bool)(vs:List Value)(A:Option Addr)(n c:Nat)(w:World)(μ:Mem)(hμ:MOk μ w)(b:jF Tryz.prog f=true)(j:Sl aK7 1 μ A n vs)(hone:∀v∈vs,v.oneCell' =true)(g:qs.length=n)(h:∀(i:Nat) (v:Value) (q:Bool) (w:World) (μ' :Mem),vs[i]? =some v→qs[i]? =some q→MOk μ' w→MLe μ μ' →Calls Tryz.prog f ([v]++cap).toArray w fun e w' =>e=.returned (.bool q)∧Below w.heap.size w w')(hn:n≤100000):
 bC 152 #[.slice A n c,.func (.func f) #[] cap.toArray] w (.bool (qs.any id)):=by
 refine aF Tryz.func152 rfl Tryz.ntmps152 (by simp) hμ ?_;rw[←sJ];try repeat' (first|refine KO ?_|((with_reducible apply C1);exact rfl;exact EN;exact fun w μc hw a=>YN f cap qs vs A n c w μc hw b (j.mono a.le) hone g (fun i v q w μ' h1 h2 h3 h4=>h i v q w μ' h1 h2 h3 (a.le.trans h4)) hn))
 exact aQ rfl rfl rfl
theorem aG4(v:Value)(p:T→Bool)(t:T)(u:Value)(bc:Nat)(w:World)(μ:Mem)(hμ:MOk μ w)(hc:Cls μ v p)(hcell:qD μ ⟨bc,0,none⟩ v)(hk:KR μ t.kids u)(hs:t.size≤100000)(g:t.s.size≤65536):
 Calls Tryz.prog 150 ([Value.agg (cO t u).toArray]++[Value.pointer (some ⟨bc,0,none⟩)]).toArray w fun e w' =>e=.returned (.bool (!p t))∧Below w.heap.size w w' :=by
 have ho:=hk.one;obtain⟨f,cap,rfl,h,hf⟩:=hc;refine aF Tryz.func150 rfl Tryz.ntmps150 (by simp) hμ ?_;try repeat' (first|refine KO ?_|((with_reducible apply C1);exact rfl;exact EN;exact fun w μc hw a=>hf t u w μc hw a.le (hk.mono a.le) hs g)|(refine KV (b:=by((with_reducible apply lF);exact rfl;exact rfl;exact hcell)) (c:=?_))|refine KZ ?_|refine NB fun b=>?_)
 exact aQ rfl rfl rfl
theorem nK(p:T→Bool)(v:Value)(x y:Int)(ks:List T)(A:Option Addr)(n c:Nat)(w:World)(μ:Mem)(hμ:MOk μ w)(hc:Cls μ v p)(hk:KR μ ks (.slice A n c))(g:ks.length=n)(hn:n≤100000)(e:∀k∈ks,T.size k≤100000∧k.s.size≤65536):
 bC 119 #[.slice A n c,v,.int .i64 x,.int .i64 y] w (.bool (jL p x y ks)):=by
 have h:=hc;obtain⟨f,cap,rfl,i,hf⟩:=h;refine aF Tryz.func119 rfl Tryz.ntmps119 (by simp) hμ ?_;try repeat' (first|refine KZ ?_|((with_reducible apply C1);exact rfl;exact EN;exact fun w μc hw a=>AW 150 [.pointer (some ⟨b,0,none⟩)] (fun t=> !p t) ks A n c w μc hw (by kernel_rfl) (hk.mono a.le) g (fun t u w μ' h1 h2 h3 h4=>aG4 _ p t u b w μ' h2 (hc.mono (a.le.trans h3)) ((TI a.hd rfl).mono h3) h4 (e t h1).1 (e t h1).2) hn)|refine NB fun b=>?_|(refine KB ?_ ?_<;>intro j))
 all_goals(refine aQ rfl rfl ?_;simp_all[jL,aEx,←aEx];try omega)
end
section
open Go.RowKit Go.Vcg
def eiT(ps:List (T→Bool))(t:T):Bool:=ps.any fun p=>p t
def cE(μ:Mem)(vs:List Value)(ps:List (T→Bool)):Prop:=vs.length=ps.length∧∀(i:Nat) (v:Value) (p:T→Bool),vs[i]? =some v→ps[i]? =some p→Cls μ v p
theorem cE.mono{μ μ' :Mem}{vs:List Value}{ps:List (T→Bool)}(h:cE μ vs ps)(hle:MLe μ μ'):cE μ' vs ps:=⟨h.1,fun i v p hv a=>(h.2 i v p hv a).mono hle⟩
theorem cE.nil(μ:Mem):cE μ [] []:=⟨rfl,fun i v p h=>by simp at h⟩
theorem cE.cons{μ:Mem}{v:Value}{p:T→Bool}{vs:List Value}{ps:List (T→Bool)}(h:Cls μ v p)(hr:cE μ vs ps):cE μ (v::vs) (p::ps):=
 ⟨by simp[hr.1],fun i v' p' hv a=>by
   cases i with
   |zero=>simp at hv a;subst hv;subst a;exact h
   |succ i=>exact hr.2 i v' p' (by simpa using hv) (by simpa using a)⟩
theorem Cls.one{μ:Mem}{v:Value}{p:T→Bool}(h:Cls μ v p):v.oneCell' =true:=by
 obtain⟨f,cap,rfl,_⟩:=h;rfl
theorem cE.one{μ:Mem}{vs:List Value}{ps:List (T→Bool)}(h:cE μ vs ps):∀v∈vs,v.oneCell' =true:=fun v hv=>by
 obtain⟨i,hi⟩:=List.mem_iff_getElem?.1 hv;have hlt:=(List.getElem?_eq_some_iff.1 hi).1;have a:i<ps.length:=by rw[←h.1];exact hlt
 exact(h.2 i v ps[i] hi (aA a)).one
attribute [local irreducible] G GC GQ GA eV Calls IntKind.wrap Int.decLt Int.decLe
theorem aI2(is:List Int)(A:Option Addr)(n c bx:Nat)(t:T)(u:Value)(w:World)(μ:Mem)(hμ:MOk μ w)(hcell:qD μ ⟨bx,0,none⟩ (.slice A n c))(f:Sl aEk 1 μ A n is)(hn:n≤100000)(hk:KR μ t.kids u):
 Calls Tryz.prog 154 ([Value.agg (cO t u).toArray]++[Value.pointer (some ⟨bx,0,none⟩)]).toArray w fun e w' =>e=.returned (.bool (ofT is t))∧Below w.heap.size w w' :=by
 have ho:=hk.one;refine aF Tryz.func154 rfl Tryz.ntmps154 (by simp) hμ ?_;try repeat' (first|refine KO ?_|((with_reducible apply C1);exact rfl;exact EN;exact fun w μc hw a=>DC t.op is A n c w μc hw (f.mono a.le) hn)|(refine KV (b:=by((with_reducible apply lF);exact rfl;exact rfl;exact hcell)) (c:=?_))|refine KZ ?_|refine NB fun b=>?_)
 exact aQ rfl rfl rfl
def PA(p:T→Bool)(μ:Mem)(v:Value):Prop:=Cls μ v p
theorem eG(is:List Int)(A:Option Addr)(n c:Nat)(w:World)(μ:Mem)(hμ:MOk μ w)(g:Sl aEk 1 μ A n is)(hn:n≤100000):
 Calls Tryz.prog 122 #[.slice A n c] w fun e w' =>∃v μ',e=.returned v∧vI w w' μ μ' ∧PA (ofT is) μ' v:=by
 refine aF Tryz.func122 rfl Tryz.ntmps122 (by simp) hμ ?_;try repeat' (first|refine KZ ?_|refine NB fun b=>?_)
 exact sC rfl (cX rfl) (fun μ' a hL=>⟨154,[.pointer (some ⟨b,0,none⟩)],rfl,by kernel_rfl,fun t u w μ2 hw hl hk hs f=>aI2 is A n c b t u w μ2 hw ((TI (hL _ (aE ..)) rfl).mono hl) (g.mono (a.trans hl)) hn hk⟩)
theorem PO(v:Value)(p:T→Bool)(t:T)(u:Value)(bn:Nat)(w:World)(μ:Mem)(hμ:MOk μ w)(hc:Cls μ v p)(hm:gF μ ⟨bn,0,none⟩ (cO t u))(hk:KR μ t.kids u)(hs:t.size≤100000)(g:t.s.size≤65536):
 Calls Tryz.prog 153 ([v]++[Value.pointer (some ⟨bn,0,none⟩)]).toArray w fun e w' =>e=.returned (.bool (p t))∧Below w.heap.size w w' :=by
 have ho:=hk.one;obtain⟨f,cap,rfl,h,hf⟩:=hc;refine aF Tryz.func153 rfl Tryz.ntmps153 (by simp) hμ ?_;try repeat' (first|refine KO ?_|((with_reducible apply C1);exact rfl;exact EN;exact fun w μc hw a=>hf t u w μc hw a.le (hk.mono a.le) hs g)|(refine KV (b:=by exact U4 hm) (c:=?_)))
 exact aQ rfl rfl rfl
theorem UZ(vs:List Value)(ps:List (T→Bool))(A:Option Addr)(n c bx:Nat)(t:T)(u:Value)(w:World)(μ:Mem)(hμ:MOk μ w)(hcell:qD μ ⟨bx,0,none⟩ (.slice A n c))(x:Sl aK7 1 μ A n vs)(g:cE μ vs ps)(hn:n≤100000)(hk:KR μ t.kids u)(hs:t.size≤100000)(l:t.s.size≤65536):
 Calls Tryz.prog 151 ([Value.agg (cO t u).toArray]++[Value.pointer (some ⟨bx,0,none⟩)]).toArray w fun e w' =>e=.returned (.bool (eiT ps t))∧Below w.heap.size w w' :=by
 have ho:=hk.one;have o:(ps.map fun p=>p t).length=n:=by rw[aO,←g.1];exact x.1
 have h:(ps.map fun p=>p t).any id=eiT ps t:=by rw[jT];rfl
 have key:∀(bn:Nat) (μc:Mem),MLe μ μc→gF μc ⟨bn,0,none⟩ (cO t u)→∀(i:Nat) (v:Value) (q:Bool) (w:World) (μ' :Mem),vs[i]? =some v→(ps.map fun p=>p t)[i]? =some q→MOk μ' w→MLe μc μ' →Calls Tryz.prog 153 ([v]++[Value.pointer (some ⟨bn,0,none⟩)]).toArray w fun e w' =>e=.returned (.bool q)∧Below w.heap.size w w' :=by
  intro bn μc hle hm i v q w μ' hv hq j a;rw[aX]at hq;cases r:ps[i]? with
  |none=>rw[r]at hq;cases hq
  | some p=>
    rw[r]at hq;cases hq;exact PO v p t u bn w μ' j ((g.2 i v p hv r).mono (hle.trans a)) (hm.mono a) (hk.mono (hle.trans a)) hs l
 refine aF Tryz.func151 rfl Tryz.ntmps151 (by simp) hμ ?_;rw[←h];try repeat' (first|refine KO ?_|((with_reducible apply C1);exact rfl;exact EN;exact fun w μc hw f=>OL 153 [.pointer (some ⟨b,0,none⟩)] (ps.map fun p=>p t) vs A n c w μc hw (by kernel_rfl) (x.mono f.le) g.one o (key b μc f.le (aFv f.hd (by repeat first|exact cH|refine bL rfl ?_))) hn)|(refine KV (b:=by((with_reducible apply lF);exact rfl;exact rfl;exact hcell)) (c:=?_))|refine KZ ?_|refine NB fun b=>?_)
 exact aQ rfl rfl rfl
theorem jV(vs:List Value)(ps:List (T→Bool))(A:Option Addr)(n c:Nat)(w:World)(μ:Mem)(hμ:MOk μ w)(h:Sl aK7 1 μ A n vs)(g:cE μ vs ps)(hn:n≤100000):
 Calls Tryz.prog 120 #[.slice A n c] w fun e w' =>∃v μ',e=.returned v∧vI w w' μ μ' ∧PA (eiT ps) μ' v:=by
 refine aF Tryz.func120 rfl Tryz.ntmps120 (by simp) hμ ?_;try repeat' (first|refine KZ ?_|refine NB fun b=>?_)
 exact sC rfl (cX rfl) (fun μ' a hL=>⟨151,[.pointer (some ⟨b,0,none⟩)],rfl,by kernel_rfl,fun t u w μ2 hw hl hk hs f=>UZ vs ps A n c b t u w μ2 hw ((TI (hL _ (aE ..)) rfl).mono hl) (h.mono (a.trans hl)) (g.mono (a.trans hl)) hn hk hs f⟩)
end
section
open Go.RowKit Go.Vcg
abbrev qO(x:Value×Int):List Value:=[x.1,.int .i64 x.2]
attribute [local irreducible] G GC GQ GA eV Calls IntKind.wrap Int.decLt Int.decLe
theorem gR(vs:List Value)(A:Option Addr)(n c:Nat)(w:World)(μ:Mem)(hμ:MOk μ w)(h:Sl aK7 1 μ A n vs)(hone:∀v∈vs,∃(f:FuncId) (cap:List Value),v=.func (.func f) #[] cap.toArray)(hn:n≤100000):
 Calls Tryz.prog 125 #[.slice A n c] w (sZ w 150 2 n (vs.flatMap fun v=>qO (v,0))):=by
 refine aF Tryz.func125 rfl Tryz.ntmps125 (by simp) hμ ?_;try repeat' (refine KZ ?_)
 refine cD (ι:=Nat×Value) (fun i=>i.1≤n) (fun i=>n-i.1) (fun _=>μ) (fun i=>[(8,.int .i64 i.1),(7,.int .i64 n),(6,.slice A n c),(3,i.2)]) (fun i=>[.inr ⟨i.2,150,2,i.1,(vs.take i.1).flatMap fun v=>qO (v,0)⟩]) (0,.slice none 0 0) (by simp) (fun a w hs=>(hs.xY 150 2).sub PU (by repeat exact bQ _)) ?_;rintro⟨k,v⟩ hk;have j:k≤n:=hk;dsimp only;by_cases hlt:k<n
 ·obtain⟨ad,x,rfl,g,hm⟩:=h.get hlt;obtain⟨f,cap,rfl⟩:=hone x (aB g);have hs:((vs.take (k+1)).flatMap fun v=>qO (v,0))=((vs.take k).flatMap fun v=>qO (v,0))++qO (.func (.func f) #[] cap.toArray,0):=by obtain⟨e,he⟩:=List.getElem?_eq_some_iff.1 g;rw[iQ e,cZ,he];simp only[bU,List.flatMap_nil,eD]
  try repeat' (first|refine KO ?_|(((with_reducible apply qA);(iterate 3 exact rfl);(repeat first|with_reducible exact fO|with_reducible apply gD);(iterate 6 exact rfl);(((with_reducible apply kB);exact rfl;(repeat with_reducible exact fW);exact rfl));(exact rfl);((exact gI (by(repeat first|with_reducible exact fZ|((with_reducible apply eW);(exact rfl))))));omega;omega;intro v))|(refine KV (b:=by first|exact U1 k|exact U3 (hm.at 0 rfl)) (c:=?_))|refine KZ ?_|refine NB fun b=>?_)
  refine KL (k+1,_) (by show k+1≤n;omega) (by show n- (k+1)<n-k;omega) rfl PU ?_;dsimp only;rw[hs];exact(by repeat first|exact bQ _|refine cP ?_)
 ·try repeat' (refine KZ ?_)
  obtain rfl:k=n:=by omega
  rw[aK (by rw[h.1];omega)];exact qI 0 rfl rfl rfl
end
end Go.Proofs.YtlllalmkkaolfaaGreatDoor
