/- Compact rules: one function tells what a plain operation yields; memory is found by its block. -/
import Derived.Test.YtlllalmkkaolfaaGreatDoorUab
import Derived.MapKept
set_option maxRecDepth 20000
namespace Go.Vcg
section
open Go.RowKit
section
variable{P:Program}{X:Ctx}{ops:Array Oper}{Q:Exit→Act→World→Prop}{rest:List Oper}{μ μr:Mem}{l:bS}{L Lr:List Bk}{a:Act}{w:World}{o:Oper}{d fuel i:Nat}{listed:Array Bool}
variable{ty:TypeId}{pos:String}{af:Array Edge}{gd:Option (Nat×Bool)}{ds:Option Nat}
def lks(cs:bS):Nat→Nat→Option (List Value)
 |_,0=>some []
 | off,n+1=>match lk cs off with
   | some v=>match lks cs (off+1) n with
     |some vs=>some (v::vs)
     |none=>none
   |none=>none
theorem MY{cs:bS}:∀{n off:Nat} {vs:List Value},lks cs off n=some vs→LC cs off n vs
 |0,off,vs,h=>by simp[lks]at h;subst h;exact cH
 | n +1,off,vs,h=>by
   unfold lks at h;cases e:lk cs off with
   |none=>simp[e]at h
   | some v=>
     cases e' :lks cs (off+1) n with
     |none=>simp[e,e']at h
     |some r=>simp[e,e']at h;subst h;exact bL e (MY e')
def aSr(op:BinOp)(x y:Int):Option Value:=match op with
 |.eql=>some (.bool (decide (x=y)))
 |.neq=>some (.bool (decide (x≠y)))
 |.lss=>some (.bool (decide (x<y)))
 |.leq=>some (.bool (decide (x≤y)))
 |.gtr=>some (.bool (decide (y<x)))
 |.geq=>some (.bool (decide (y≤x)))
 |_=>none
def aSq(op:BinOp)(x y:ByteArray):Option Value:=match op with
 |.eql=>some (.bool (decide (x=y)))
 |.neq=>some (.bool (decide (x≠y)))
 |_=>none
def aSs(op:BinOp)(x y:Bool):Option Value:=match op with
 |.eql=>some (.bool (decide (x=y)))
 |.neq=>some (.bool (decide (x≠y)))
 |_=>none
def UC(P:Program)(t:TypeId):Bool:=match P.underlying t with|some .bool=>true|_=>false
def aCt(P:Program)(l:bS)(t:TypeId)(ps:List (Nat×Operand)):Option Value:=
 match jN P t with
 | some s => match oL P t with
   | some z=>match Nat.beq (rO z).length s with
     | true=>match KG P t with
       | some pl=>match yG l ps with
         | some us=>match BO pl s us with
           | true=>match lks (EK pl us (idx 0 (rO z))) 0 s with
             |some vs=>some (.agg vs.toArray)
             |none=>none
           |false=>none
         |none=>none
       |none=>none
     |false=>none
   |none=>none
 |none=>none
def aRs(P:Program)(l:bS):List Operand→List TypeId→Option Value
 | [p],[t]=>match ev l p,P.underlying t with
   |some (.string s),some .string=>some (.int .i64 s.size)
   |some (.slice _ n _),some (.slice _)=>some (.int .i64 n)
   |_,_=>none
 |_,_=>none
def evs(l:bS):List Operand→Option (List Value)
 |[]=>some []
 | x ::r=>match ev l x with
   | some v=>match evs l r with
     |some vs=>some (v::vs)
     |none=>none
   |none=>none
theorem ZN(h:Rd μ l L a w):∀{xs:List Operand} {vs:List Value},evs l xs=some vs→xs.map a.eval=vs
 |[],vs,e=>by simp[evs]at e;simp[e]
 | x ::r,vs,e=>by
   unfold evs at e;cases b:ev l x with
   |none=>simp[b]at e
   | some v=>
     cases hr:evs l r with
     |none=>simp[b,hr]at e
     | some us=>
       simp[b,hr]at e;subst e;simp[h.eval b,ZN h hr]
def pv(P:Program)(l:bS):Op→Option Value
 |.move x=>ev l x
 |.assign x=>ev l x
 | .pick c x y=>match ev l c with
   |some (.bool true)=>ev l x
   |some (.bool false)=>ev l y
   |_=>none
 | .fieldAddr t p i=>match ev l p with
   | some (.pointer (some ⟨b,k,none⟩))=>match OA P t i with
     |some (_,off)=>CR k fun k=>some (.pointer (some ⟨b,k+off,none⟩))
     |none=>none
   |_=>none
 | .binOp op t p q _=>match ev l p,ev l q with
   | some (.int k x),some (.int k' y)=>match decide (k=k')with
     |true=>aSr op x y
     |false=>none
   |some (.string x),some (.string y)=>aSq op x y
   | some (.bool x),some (.bool y)=>match UC P t with
     |true=>aSs op x y
     |false=>none
   |_,_=>none
 | .unOp .not _ p=>match ev l p with
   |some (.bool b)=>some (.bool (!b))
   |_=>none
 | .extract p i=>match ev l p with
   |some (.tuple vs)=>XN vs.toList i
   |_=>none
 | .nilCheck p=>match ev l p with
   |some (.pointer (some A))=>some (.pointer (some A))
   |_=>none
 |.call ⟨.builtin .len,args,ts⟩=>aRs P l args.toList ts.toList
 |.build t ps=>aCt P l t ps.toList
 | .makeFunc fn ⟨[]⟩ caps=>match evs l caps.toList with
   |some vs=>some (.func fn #[] vs.toArray)
   |none=>none
 |_=>none
theorem aCo{op:BinOp}{p q:Operand}{t t2:TypeId}{k:IntKind}{x y:Int}{v:Value}(a:ev l p=some (.int k x))(hq:ev l q=some (.int k y))(h:aSr op x y=some v):Val P μ l L ⟨ds,.binOp op t p q t2,ty,pos,af,gd⟩ v:=by
 cases op<;>simp only[aSr,aW,reduceCtorEq]at h<;>subst h
 ·exact aTk a hq
 ·exact aTe a hq
 ·exact aTg a hq
 ·exact aTh a hq
 ·exact aTi a hq
 ·exact aTj a hq
theorem aCn{op:BinOp}{p q:Operand}{t t2:TypeId}{x y:ByteArray}{v:Value}(a:ev l p=some (.string x))(hq:ev l q=some (.string y))(h:aSq op x y=some v):Val P μ l L ⟨ds,.binOp op t p q t2,ty,pos,af,gd⟩ v:=by
 cases op<;>simp only[aSq,aW,reduceCtorEq]at h<;>subst h
 ·exact aQg a hq
 ·exact aQf a hq
theorem aCp{op:BinOp}{p q:Operand}{t t2:TypeId}{x y:Bool}{v:Value}(ht:UC P t=true)(a:ev l p=some (.bool x))(hq:ev l q=some (.bool y))(h:aSs op x y=some v):Val P μ l L ⟨ds,.binOp op t p q t2,ty,pos,af,gd⟩ v:=by
 have hu:P.underlying t=some .bool:=by
  unfold UC at ht;split at ht
  ·assumption
  ·cases ht
 cases op<;>simp only[aSs,aW,reduceCtorEq]at h<;>subst h
 ·exact aQk hu a hq
 ·exact aQj hu a hq
theorem VE{t:TypeId}{ps:Array (Nat×Operand)}{v:Value}(h:aCt P l t ps.toList=some v):Val P μ l L ⟨ds,.build t ps,ty,pos,af,gd⟩ v:=by
 unfold aCt at h;repeat' split at h
 all_goals first|(simp only[reduceCtorEq]at h;done)|skip
 rename_i _ s hs _ z g _ hb _ pl c _ us b _ f _ vs a;simp only[aW]at h;subst h;have e:ps=ps.toList.toArray:=by simp
 rw[e];exact aMe hs g (dD hb) c b f (MY a)
theorem aBr{args:Array Operand}{ts:Array TypeId}{v:Value}(h:aRs P l args.toList ts.toList=some v):Val P μ l L ⟨ds,.call ⟨.builtin .len,args,ts⟩,ty,pos,af,gd⟩ v:=by
 unfold aRs at h;split at h
 ·rename_i p t b ht;have e:args= #[p]:=by rw[←Array.toArray_toList (xs:=args),b]
  have e' :ts= #[t]:=by rw[←Array.toArray_toList (xs:=ts),ht]
  subst e e';split at h
  ·rename_i s a hu;simp only[aW]at h;subst h;exact aMc a hu
  ·rename_i A n c e a hu;simp only[aW]at h;subst h;exact aMd a hu
  ·cases h
 ·cases h
theorem MX{fn:Fn}{caps:Array Operand}{vs:List Value}(h:evs l caps.toList=some vs):Val P μ l L ⟨ds,.makeFunc fn #[] caps,ty,pos,af,gd⟩ (.func fn #[] vs.toArray):=fun a w hs=>by
 have e:=ZN hs h;have:caps.map a.eval=vs.toArray:=by cases caps;simpa using e
 simp[execOp,Instr.makeFunc,this]
theorem WY{op:Op}{v:Value}(h:pv P l op=some v):Val P μ l L ⟨ds,op,ty,pos,af,gd⟩ v:=by
 unfold pv at h;split at h
 ·exact aQh h
 ·exact aHt h
 ·split at h
  ·rename_i hc;exact aHq hc h
  ·rename_i hc;exact aHr hc h
  ·cases h
 ·split at h
  ·rename_i b k a;split at h
   ·rename_i x off hf;rw[zQ]at h;simp only[aW]at h;subst h;exact VT a hf
   ·cases h
  ·cases h
 ·split at h
  ·rename_i k x k' y a hq;split at h
   ·rename_i hk;have:=of_decide_eq_true hk;subst this;exact aCo a hq h
   ·cases h
  ·rename_i x y a hq;exact aCn a hq h
  ·rename_i x y a hq;split at h
   ·rename_i ht;exact aCp ht a hq h
   ·cases h
  ·cases h
 ·split at h
  ·rename_i b a;simp only[aW]at h;subst h;exact aTd a
  ·cases h
 ·split at h
  ·rename_i vs a;have e:vs=vs.toList.toArray:=by simp
   rw[e]at a;exact aE5 a h
  ·cases h
 ·split at h
  ·rename_i A a;simp only[aW]at h;subst h;exact aAi a
  ·cases h
 ·exact aBr h
 ·exact VE h
 ·split at h
  ·rename_i vs hv;simp only[aW]at h;subst h;exact MX hv
  ·cases h
 ·cases h
def XE(P:Program)(n:Nat)(ops:Array Oper)(l:bS)(o:Oper):Option (Nat×Value):=match o.dst with
 | some d=>match Nat.blt d n with
   | true=>match iF ops l o with
     | some true=>match pv P l o.op with
       |some v=>some (d,v)
       |none=>none
     |some false=>some (d,undef)
     |none=>none
   |false=>none
 |none=>none
theorem g_p{v:Value}(h:XE P X.n ops l o=some (d,v))(hg:G P X ops Q rest μ ((d,v)::l) L):G P X ops Q (o::rest) μ l L:=by
 unfold XE at h;split at h
 ·rename_i d' hd;split at h
  ·rename_i hn;split at h
   ·rename_i hw;split at h
    ·rename_i v' hv;simp only[aW,cV]at h;obtain⟨rfl,rfl⟩:=h;cases o;exact aEb hd hn hw (WY hv) hg
    ·cases h
   ·rename_i hw;simp only[aW,cV]at h;obtain⟨rfl,rfl⟩:=h;exact aR9 hd hn hw hg
   ·cases h
  ·cases h
 ·cases h
def arI(l:bS)(op:Op):Option Int:=match op with
 | .binOp op _ p q _=>match ev l p,ev l q with
   | some (.int .i64 x),some (.int .i64 y)=>match op with
     |.add=>some (x+y)
     |.sub=>some (x-y)
     |.mul=>some (x*y)
     |_=>none
   |_,_=>none
 |_=>none
theorem SN{op:Op}{r:Int}(h:arI l op=some r)(hb: -9223372036854775808≤r∧r≤9223372036854775807):Val P μ l L ⟨ds,op,ty,pos,af,gd⟩ (.int .i64 r):=by
 unfold arI at h;split at h
 ·split at h
  ·rename_i x y a hq;split at h
   ·simp only[aW]at h;subst h;exact aMf a hq hb
   ·simp only[aW]at h;subst h;exact aL9 a hq hb
   ·simp only[aW]at h;subst h;exact aMb a hq hb
   ·cases h
  ·cases h
 ·cases h
def aCz(n:Nat)(ops:Array Oper)(l:bS)(o:Oper):Option (Nat×Int):=match o.dst with
 | some d=>match Nat.blt d n with
   | true=>match iF ops l o with
     | some true=>match arI l o.op with
       |some v=>some (d,v)
       |none=>none
     |_=>none
   |false=>none
 |none=>none
theorem aV2{r:Int}(h:aCz X.n ops l o=some (d,r))(hb: -9223372036854775808≤r∧r≤9223372036854775807)(hg:G P X ops Q rest μ ((d,.int .i64 r)::l) L):G P X ops Q (o::rest) μ l L:=by
 unfold aCz at h;split at h
 ·rename_i d' hd;split at h
  ·rename_i hn;split at h
   ·rename_i hw;split at h
    ·rename_i v' hv;simp only[aW,cV]at h;obtain⟨rfl,rfl⟩:=h;cases o;exact aEb hd hn hw (SN hv hb) hg
    ·cases h
   ·cases h
  ·cases h
 ·cases h
def InB(L:List Bk)(b:Nat)(y:Blk):Prop:=∃i,iI L i=some (.inl y)∧y.b=b
theorem fW{b t sz:Nat}{cs:bS}{L:List Bk}:InB (.inl ⟨b,t,sz,cs⟩::L) b ⟨b,t,sz,cs⟩:=⟨0,rfl,rfl⟩
theorem pQ{b:Nat}{y:Blk}{x:Bk}{L:List Bk}(h:InB L b y):InB (x::L) b y:=by
 obtain⟨i,h1,h2⟩:=h;exact⟨i+1,h1,h2⟩
def ldv(P:Program)(t:TypeId)(cs:bS)(off:Nat):Option Value:=match pN P t with
 |some false=>lk cs off
 | some true=>match jN P t with
   | some s=>match lks cs off s with
     |some vs=>some (.agg vs.toArray)
     |none=>none
   |none=>none
 |none=>none
def vJ(n:Nat)(ops:Array Oper)(l:bS)(o:Oper):Option Nat:=match o.dst with
 | some d=>match Nat.blt d n with
   | true=>match iF ops l o with
     |some true=>some d
     |_=>none
   |false=>none
 |none=>none
theorem nF{n:Nat}(h:vJ n ops l o=some d):o.dst=some d∧Nat.blt d n=true∧iF ops l o=some true:=by
 unfold vJ at h;split at h
 ·rename_i d' hd;split at h
  ·rename_i hn;split at h
   ·rename_i hw;simp only[aW]at h;subst h;exact⟨hd,hn,hw⟩
   ·cases h
  ·cases h
 ·cases h
def aNg(l:bS):Op→Option (TypeId×Nat×Nat)
 | .load t x=>match ev l x with
   |some (.pointer (some ⟨b,off,none⟩))=>some (t,b,off)
   |_=>none
 |_=>none
theorem yZ{op:Op}{t b off:Nat}{y:Blk}{v:Value}(h:aNg l op=some (t,b,off))(hb:InB L b y)(hv:ldv P t y.cs off=some v):Val P μ l L ⟨ds,op,ty,pos,af,gd⟩ v:=by
 unfold aNg at h;split at h
 ·split at h
  ·rename_i t' x _ b' off' e;simp only[aW,cV]at h;obtain⟨rfl,rfl,rfl⟩:=h;obtain⟨i,hi,rfl⟩:=hb;unfold ldv at hv;split at hv
   ·rename_i c;exact aAj i c hi e hv
   ·rename_i c;split at hv
    ·rename_i s hs;split at hv
     ·rename_i vs a;simp only[aW]at hv;subst hv;exact aAk i c hs hi e (MY a)
     ·cases hv
    ·cases hv
   ·cases hv
  ·cases h
 ·cases h
theorem aVz{t b off:Nat}{y:Blk}{v:Value}(hd:vJ X.n ops l o=some d)(h:aNg l o.op=some (t,b,off))(hb:InB L b y)(hv:ldv P t y.cs off=some v)(hg:G P X ops Q rest μ ((d,v)::l) L):G P X ops Q (o::rest) μ l L:=by
 obtain⟨h1,h2,h3⟩:=nF hd;cases o;exact aEb h1 h2 h3 (yZ h hb hv) hg
def DX:List Value→Option (List Value)
 |[]=>some []
 | v::r=>match DX r with
   |some r' =>some (v::r')
   |none=>none
theorem BZ:∀{vs us:List Value},DX vs=some us→us=vs
 |[],us,h=>by unfold DX at h;cases h;rfl
 | v::r,us,h=>by
   unfold DX at h;split at h
   ·rename_i r' hr;simp only[aW]at h;subst h;rw[BZ hr]
   ·cases h
def VL(vs:List Value):Prop:=vs.all (·.oneCell')=true
theorem fZ:VL []:=rfl
theorem eW{v:Value}{vs:List Value}(h:v.oneCell' =true)(hr:VL vs):VL (v::vs):=by
 unfold VL at*;rw[lR,h,hr];rfl
def stop(P :Program)(l:bS)(op:Op):Option (Nat×Nat×List Value):=match op with
 | .store t q x=>match jN P t with
   | some s=>match ev l q with
     | some (.pointer (some ⟨b,off,none⟩))=>match ev l x with
       | some v=>match DX (rO v)with
         | some vs=>match Nat.beq vs.length s with
           |true=>some (b,off,vs)
           |false=>none
         |none=>none
       |none=>none
     |_=>none
   |none=>none
 |_=>none
def aDp(ops:Array Oper)(l:bS)(o:Oper):Bool:=match o.dst with
 | none=>match iF ops l o with
   |some true=>true
   |_=>false
 |some _=>false
def UpB(L:List Bk)(b off:Nat)(vs:List Value)(L' :List Bk):Prop:=∃i y,iI L i=some (.inl y)∧y.b=b∧Nat.ble (off+vs.length) y.sz=true∧L' =fT L i (.inl ⟨y.b,y.t,y.sz,BL off vs y.cs⟩)
theorem aH1{b t sz off:Nat}{cs cs' :bS}{vs:List Value}{L:List Bk}(a:Nat.ble (off+vs.length) sz=true)(c:PC off vs cs cs'):UpB (.inl ⟨b,t,sz,cs⟩::L) b off vs (.inl ⟨b,t,sz,cs'⟩::L):=by
 rw[c.eq];exact⟨0,⟨b,t,sz,cs⟩,rfl,rfl,a,rfl⟩
theorem aH0{b off:Nat}{vs:List Value}{x:Bk}{L L' :List Bk}(h:UpB L b off vs L'):UpB (x::L) b off vs (x::L'):=by
 obtain⟨i,y,h1,h2,h3,rfl⟩:=h;exact⟨i+1,y,h1,h2,h3,rfl⟩
theorem aUo{b off:Nat}{vs:List Value}{L' :List Bk}(hd:aDp ops l o=true)(h:stop P l o.op=some (b,off,vs))(h1:VL vs)(hu:UpB L b off vs L')(hg:G P X ops Q rest μ l L'):G P X ops Q (o::rest) μ l L:=by
 obtain⟨ds,op,ty,pos,af,gd⟩:=o;unfold aDp at hd;split at hd
 ·rename_i c;split at hd
  ·rename_i hw;simp only at c;subst c;unfold stop at h;simp only at h;split at h
   ·split at h
    ·rename_i t q x s hs;split at h
     ·rename_i b' off' hq;split at h
      ·rename_i v e;split at h
       ·rename_i vs' hf;split at h
        ·rename_i hlen;simp only[aW,cV]at h;obtain⟨rfl,rfl,rfl⟩:=h;have hc:=BZ hf;rw[pJ]at hc;obtain⟨i,y,hi,rfl,a,rfl⟩:=hu;have hl:=dD hlen;refine aEc (n:=s) i hw hs hi hq e (by rw[←hc];exact hl) (by rw[←hc];exact h1) (by rw[←hl];exact a) ?_;rw[←hc];exact hg
        ·cases h
       ·cases h
      ·cases h
     ·cases h
    ·cases h
   ·cases h
  ·cases hd
 ·cases hd
def aM5(P:Program)(l:bS):Op→Option (TypeId×List Value)
 | .box t x=>match ev l x with
   | some v=>match DX (rO v)with
     |some vs=>some (t,vs)
     |none=>none
   |none=>none
 | .alloc t=>match oL P t with
   | some z=>match DX (rO z)with
     |some vs=>some (t,vs)
     |none=>none
   |none=>none
 |_=>none
theorem aVc{op:Op}{t:TypeId}{cs:List Value}(h:aM5 P l op=some (t,cs)):Alc P μ l L ⟨ds,op,ty,pos,af,gd⟩ (fun b=>.pointer (some ⟨b,0,none⟩)) t cs:=by
 unfold aM5 at h;split at h
 ·split at h
  ·rename_i t' x _ v a;split at h
   ·rename_i vs hf;simp only[aW,cV]at h;obtain⟨rfl,rfl⟩:=h;rw[BZ hf,pJ];exact aF1 a
   ·cases h
  ·cases h
 ·split at h
  ·rename_i t' _ v a;split at h
   ·rename_i vs hf;simp only[aW,cV]at h;obtain⟨rfl,rfl⟩:=h;rw[BZ hf,pJ];exact XU a
   ·cases h
  ·cases h
 ·cases h
theorem aVy{t:TypeId}{cs:List Value}{n:Nat}(hd:vJ X.n ops l o=some d)(h:aM5 P l o.op=some (t,cs))(hn:CR cs.length some=some n)(hg:∀b,G P X ops Q rest μ ((d,.pointer (some ⟨b,0,none⟩))::l) (.inl ⟨b,t,n,idx 0 cs⟩::L)):G P X ops Q (o::rest) μ l L:=by
 obtain⟨h1,h2,h3⟩:=nF hd;cases o;exact aP7 h1 h2 h3 (aVc h) hn hg
def aLz:List Value→List Value→Option (List Value)
 |[],r=>some r
 | u::us,r=>match aLz us r with
   |some c=>some (u::c)
   |none=>none
theorem aEw:∀{us r c:List Value},aLz us r=some c→c=us++r
 |[],r,c,h=>by unfold aLz at h;cases h;rfl
 | u::us,r,c,h=>by
   unfold aLz at h;split at h
   ·rename_i c' hc;simp only[aW]at h;subst h;rw[aEw hc];rfl
   ·cases h
def bsl(l:bS)(s:Nat):Nat→List (Nat×Operand)→Option (List Value)
 |_,[]=>some []
 | i, (j,x)::ps=>match Nat.beq j i with
   | true=>match ev l x with
     | some v=>match Nat.beq (rO v).length s with
       | true=>match bsl l s (i+1) ps with
         |some r=>aLz (rO v) r
         |none=>none
       |false=>none
     |none=>none
   |false=>none
theorem aLt{s:Nat}:∀{ps:List (Nat×Operand)} {i:Nat} {cs:List Value},bsl l s i ps=some cs→∃vs,BP l s i ps vs cs
 |[],i,cs,h=>by simp[bsl]at h;subst h;exact⟨[],aSx⟩
 | (j, x)::ps,i,cs,h=>by
   unfold bsl at h;split at h
   ·rename_i c;split at h
    ·rename_i v b;split at h
     ·rename_i hl;split at h
      ·rename_i r hr;obtain⟨vs,hb⟩:=aLt hr;have hc:=aEw h;have a:=dD hl;rw[pJ]at hc a;exact⟨v::vs,dD c,b,by simpa using a,r,hc,hb⟩
      ·cases h
     ·cases h
    ·cases h
   ·cases h
def aO3(P:Program)(l:bS):Op→Option (TypeId×Nat×List Value)
 | .buildSlice t n ps=>match P.underlying t with
   | some (.slice e)=>match jN P e with
     | some s=>match oL P e with
       | some _=>match Nat.beq ps.toList.length n with
         | true=>match Nat.ble (n*s) 16777216 with
           | true=>match bsl l s 0 ps.toList with
             |some cs=>some (e,n,cs)
             |none=>none
           |false=>none
         |false=>none
       |none=>none
     |none=>none
   |_=>none
 |_=>none
theorem aVd{op:Op}{t:TypeId}{n:Nat}{cs:List Value}(h:aO3 P l op=some (t,n,cs)):Alc P μ l L ⟨ds,op,ty,pos,af,gd⟩ (fun b=>.slice (some ⟨b,0,none⟩) n n) t cs:=by
 unfold aO3 at h;split at h
 ·rename_i t' n' ps;split at h
  ·rename_i e he;split at h
   ·rename_i s hs;split at h
    ·rename_i z c;split at h
     ·rename_i hn;split at h
      ·rename_i hb;split at h
       ·rename_i cs' hc;simp only[aW,cV]at h;obtain⟨rfl,rfl,rfl⟩:=h;obtain⟨vs,a⟩:=aLt hc;have e:ps=ps.toList.toArray:=by simp
        rw[e];exact TZ he hs c (dD hn) hb a
       ·cases h
      ·cases h
     ·cases h
    ·cases h
   ·cases h
  ·cases h
 ·cases h
theorem aV1{t:TypeId}{cs:List Value}{n m:Nat}(hd:vJ X.n ops l o=some d)(h:aO3 P l o.op=some (t,m,cs))(hn:CR cs.length some=some n)(hg:∀b,G P X ops Q rest μ ((d,.slice (some ⟨b,0,none⟩) m m)::l) (.inl ⟨b,t,n,idx 0 cs⟩::L)):G P X ops Q (o::rest) μ l L:=by
 obtain⟨h1,h2,h3⟩:=nF hd;cases o;exact aP7 h1 h2 h3 (aVd h) hn hg
theorem SV{op:Op}{x:Operand}{t j:Nat}{A:Addr}{vs:List Value}{v:Value}(h:op=.load t x)(a:pN P t=some false)(b:ev l x=some (.pointer (some (A.add j))))(hm:gF μ A vs)(hv:XN vs j=some v):Val P μ l L ⟨ds,op,ty,pos,af,gd⟩ v:=by
 subst h;rw[TX]at hv;exact lF a b (hm j v hv)
theorem PX{p:Operand}{t:TypeId}{i ft off:Nat}{A:Addr}(hx0:ev l p=some (.pointer (some A)))(hf:OA P t i=some (ft,off)):Val P μ l L ⟨ds,.fieldAddr t p i,ty,pos,af,gd⟩ (.pointer (some (A.add off))):=fun a w hs=>by
 have e0:=hs.eval hx0;simp[execOp,e0,IK hf]
theorem aE4{p q:Operand}{t e:TypeId}{A:Addr}{len cap n k:Nat}(ht:P.underlying t=some (.slice e))(hs:jN P e=some n)
 (hx0:ev l p=some (.slice (some A) len cap))(hx1:ev l q=some (.int .i64 (k:Int)))(hk:k<len):Val P μ l L ⟨ds,.indexAddr t p q,ty,pos,af,gd⟩ (.pointer (some (A.add (k*n)))):=aC6 k ht hs hx0 hx1 rfl hk
def SS(L:List Bk)(r:Rw)(F:Rw→List Bk):Prop:=∃i,iI L i=some (.inr r)∧∀r',F r' =fT L i (.inr r')
theorem fO{v:Value}{e s n:Nat}{xs:List Value}{L:List Bk}:SS (.inr ⟨v,e,s,n,xs⟩::L) ⟨v,e,s,n,xs⟩ (fun r=>.inr r::L):=⟨0,rfl,fun _=>rfl⟩
theorem gD{x:Bk}{L:List Bk}{r:Rw}{F:Rw→List Bk}(h:SS L r F):SS (x::L) r (fun r=>x::F r):=by
 obtain⟨i,h1,h2⟩:=h;exact⟨i+1,h1,fun r' =>by show x::F r' =x::fT L i (.inr r');rw[h2]⟩
theorem kB{q:Operand}{y:Blk}{b m c:Nat}{news:List Value}(hq:ev l q=some (.slice (some ⟨b,0,none⟩) m c))(hb:InB L b y)(hl:lks y.cs 0 y.sz=some news):Src μ l L q m news:=by
 obtain⟨i,hi,rfl⟩:=hb;exact aMu i hi hq (MY hl)
theorem qA{p q:Operand}{t e:TypeId}{s bytes m n:Nat}{z v:Value}{news xs:List Value}{F:Rw→List Bk}(hn:Nat.blt d X.n=true)(hw:iF ops l ⟨some d,.call { callee:=.builtin .append,args:= #[p,q],argTypes:= #[t,t] },ty,pos,af,gd⟩=some true)
 (o:ev l p=some v)(hr:SS L ⟨v,e,s,n,xs⟩ F)(ht:P.underlying t=some (.slice e))(hs:jN P e=some s)(j:oL P e=some z)(f:z.cells.toList.length=s)(g:EI P e=some bytes)(c:Nat.blt 0 s=true)
 (b:Src μ l L q m news)(hl:news.length=m*s)(h1:∀u∈news,u.oneCell' =true)(a:(n+m)*bytes≤140737488355328)(hlen:n+m≤140737488355328)
 (h:∀v,G P X ops Q rest μ ((d,v)::l) (F ⟨v,e,s,n+m,xs++news⟩)):
 G P X ops Q (⟨some d,.call { callee:=.builtin .append,args:= #[p,q],argTypes:= #[t,t] },ty,pos,af,gd⟩::rest) μ l L:=by
 obtain⟨i,hi,w⟩:=hr;refine ZB (r:=⟨v,e,s,n,xs⟩) i hn hw hi ht hs rfl j f g c o b hl h1 a hlen (fun v=>?_);rw[←w];exact h v
theorem gI{vs:List Value}(h:VL vs):∀u∈vs,u.oneCell' =true:=by
 unfold VL at h;simpa only[eJ]using h
def PIf(b:Bool)(p q:Prop):Prop:=(b=true→p)∧(b=false→q)
theorem aP0{p q:Prop}(h:p):PIf true p q:=⟨fun _=>h,fun h=>by cases h⟩
theorem aP1{p q:Prop}(h:q):PIf false p q:=⟨fun h=>by(cases h),fun _=>h⟩
theorem aRj{b:Bool}{p q:Prop}(hb:b=true)(h:p):PIf b p q:=by subst hb;exact aP0 h
theorem aRk{b:Bool}{p q:Prop}(hb:b=false)(h:q):PIf b p q:=by subst hb;exact aP1 h
theorem aM0{b:Bool}{p q:Prop}(h:PIf b q p):PIf (!b) p q:=by
 cases b
 ·exact⟨fun _=>h.2 rfl,fun h=>by cases h⟩
 ·exact⟨fun h=>by(cases h),fun _=>h.1 rfl⟩
theorem aIx{c p q:Prop}{_:Decidable c}(hc:c)(h:p):PIf (decide c) p q:=⟨fun _=>h,fun e=>absurd hc (of_decide_eq_false e)⟩
theorem aIy{c p q:Prop}{_:Decidable c}(hc:¬c)(h:q):PIf (decide c) p q:=⟨fun e=>absurd (of_decide_eq_true e) hc,fun _=>h⟩
theorem QT{α:Type}(a:α):¬(a≠a):=fun h=>h rfl
theorem aM1{c p q:Prop}{_:Decidable c}(h:c→p)(a:¬c→q):PIf (decide c) p q:=⟨fun e=>h (of_decide_eq_true e),fun e=>a (of_decide_eq_false e)⟩
theorem aTv{b:Bool}{p q:Prop}(h:b=true→p)(a:b=false→q):PIf b p q:=⟨h,a⟩
theorem aUj{c:Operand}{x y:Code}{b:Bool}(hc:ev l c=some (.bool b))(h:PIf b (GC P X x Q μ l L) (GC P X y Q μ l L)):GC P X (.cond c x y) Q μ l L:=UK hc h.1 h.2
def RJ(ops:Array Oper)(l:bS)(o:Oper):Option (Nat×Bool):=match BX ops o with
 | some t=>match lk l t with
   |some (.bool b)=>some (t,b)
   |_=>none
 |none=>none
theorem yF{t:Nat}{b:Bool}(h:RJ ops l o=some (t,b)):BX ops o=some t∧lk l t=some (.bool b):=by
 unfold RJ at h;split at h
 ·rename_i t' ht;split at h
  ·rename_i b' hb;simp only[aW,cV]at h;obtain⟨rfl,rfl⟩:=h;exact⟨ht,hb⟩
  ·cases h
 ·cases h
theorem aV0{t:Nat}{b:Bool}(h:RJ ops l o=some (t,b))(hb:PD b)(hg:PIf b (G P X ops Q (o::rest) μ ((t,.bool true)::l) L) (G P X ops Q (o::rest) μ ((t,.bool false)::l) L)):G P X ops Q (o::rest) μ l L:=
 aOe (yF h).1 (yF h).2 hb hg.1 hg.2
theorem g_v{v:Value}(hd:vJ X.n ops l o=some d)(hr:Val P μ l L o v)(h:G P X ops Q rest μ ((d,v)::l) L):G P X ops Q (o::rest) μ l L:=by
 obtain⟨h1,h2,h3⟩:=nF hd;exact aEb h1 h2 h3 hr h
def yH(ops:Array Oper)(listed:Array Bool)(i:Nat):Bool:=Region.noSelect ops&&Region.free .any ops listed i&&(Region.ready .any ops listed).contains i
theorem JI(h:yH ops listed i=true):Region.noSelect ops=true∧Region.free .any ops listed i=true∧(Region.ready .any ops listed).contains i=true:=by
 unfold yH at h;simp only[aM]at h;exact⟨h.1.1,h.1.2,h.2⟩
def KF(P:Program)(n:Nat)(ops:Array Oper)(l:bS)(i:Nat):Option (Nat×Value):=match wY ops.toList i with
 |some o=>XE P n ops l o
 |none=>none
theorem aUm(i:Nat){v:Value}(h:KF P X.n ops l i=some (d,v))(hk:yH ops listed i=true)(hQ:∀c a w,Q (.panic c) (Act.put a (some d) v) w→Q (.panic c) a w)
 (hg:GA P X μr Lr ops Q fuel (listed.setIfInBounds i true) μ ((d,v)::l) L):GA P X μr Lr ops Q (fuel+1) listed μ l L:=by
 obtain⟨k1,k2,k3⟩:=JI hk;unfold KF at h;split at h
 ·rename_i o ho;unfold XE at h;split at h
  ·rename_i d' hd;split at h
   ·rename_i hn;split at h
    ·rename_i hw;split at h
     ·rename_i v' hv;simp only[aW,cV]at h;obtain⟨rfl,rfl⟩:=h;exact aEa i ho hd hn hw k1 k2 k3 hQ (by cases o;exact WY hv) hg
     ·cases h
    ·rename_i hw;simp only[aW,cV]at h;obtain⟨rfl,rfl⟩:=h;exact aN9 i ho hd hn hw k1 k2 k3 hQ hg
    ·cases h
   ·cases h
  ·cases h
 ·cases h
def HO(n:Nat)(ops:Array Oper)(l:bS)(i:Nat):Option (Nat×Oper):=match wY ops.toList i with
 | some o=>match vJ n ops l o with
   |some d=>some (d,o)
   |none=>none
 |none=>none
theorem XG{n:Nat}(h:HO n ops l i=some (d,o)):wY ops.toList i=some o∧o.dst=some d∧Nat.blt d n=true∧iF ops l o=some true:=by
 unfold HO at h;split at h
 ·rename_i o' ho;split at h
  ·rename_i d' hd;simp only[aW,cV]at h;obtain⟨rfl,rfl⟩:=h;obtain⟨h1,h2,h3⟩:=nF hd;exact⟨ho,h1,h2,h3⟩
  ·cases h
 ·cases h
theorem aUl(i:Nat){v:Value}(h:HO X.n ops l i=some (d,o))(hk:yH ops listed i=true)(hQ:∀c a w,Q (.panic c) (Act.put a (some d) v) w→Q (.panic c) a w)(hv:Val P μr l Lr o v)
 (hg:GA P X μr Lr ops Q fuel (listed.setIfInBounds i true) μ ((d,v)::l) L):GA P X μr Lr ops Q (fuel+1) listed μ l L:=by
 obtain⟨k1,k2,k3⟩:=JI hk;obtain⟨ho,hd,hn,hw⟩:=XG h;exact aEa i ho hd hn hw k1 k2 k3 hQ hv hg
theorem aUn(i:Nat){t:Nat}{b:Bool}(ho:wY ops.toList i=some o)(h:RJ ops l o=some (t,b))(hb:PD b)(hg:PIf b (GA P X μr Lr ops Q fuel listed μ ((t,.bool true)::l) L) (GA P X μr Lr ops Q fuel listed μ ((t,.bool false)::l) L)):GA P X μr Lr ops Q fuel listed μ l L:=
 aJ8 i ho (yF h).1 (yF h).2 hb hg.1 hg.2
def aPh(X:Ctx){ι:Type}(J:ι→Prop)(μs:ι→Mem)(ls:ι→bS)(Ls:ι→List Bk)(a:Act)(w:World):Prop:=∃j,J j∧St X (μs j) (ls j) (Ls j) a w
theorem iT{x y:Code}{ι:Type}(J:ι→Prop)(μs:ι→Mem)(ls:ι→bS)(Ls:ι→List Bk)(f:GC P X x (Exit.then (aPh X J μs ls Ls) Q) μ l L)(c:∀i,J i→GC P X y Q (μs i) (ls i) (Ls i)):GC P X (.seq x y) Q μ l L:=fun a w hs=>
 wp_seq (wp_mono (f a w hs) fun e a' w' h=>by
  cases e with
  |normal=>obtain⟨j,hJ,b⟩:=h;exact c j hJ a' w' b
  |_=>exact h)
end
end
section
open Go.RowKit
section
variable{P:Program}{X:Ctx}{ops:Array Oper}{Q:Exit→Act→World→Prop}{rest:List Oper}{μ μr:Mem}{l:bS}{L Lr:List Bk}{a:Act}{w:World}{o:Oper}{d fuel i:Nat}{listed:Array Bool}
variable{ty:TypeId}{pos:String}{af:Array Edge}{gd:Option (Nat×Bool)}{ds:Option Nat}
def bAt(s:ByteArray)(k:Nat):Int:=((s.data.toList[k]?).getD 0).toNat
theorem aAz{t:TypeId}{s:ByteArray}{k:Nat}(ht:P.underlying t=some .string)(hk:k<s.size)(w:World):(Instr.index t (.string s) (.int .i64 (k:Int))).run P w=.ok (.int .u8 (bAt s k)) w:=by
 have h1:s[k]? =some s[k]:=by simp[hk]
 have h2:bAt s k=s[k].toNat:=by
  unfold bAt;have:s.data.toList[k]? =some s[k]:=by rw[Array.getElem?_toList];exact Array.getElem?_eq_getElem hk
  rw[this];rfl
 simp[Instr.index,asIntOf,run_underlying ht,h1,h2]
theorem aHp{p q:Operand}{t:TypeId}{s:ByteArray}{i:Int}(k:Nat)(ht:P.underlying t=some .string)(hx0:ev l p=some (.string s))(hx1:ev l q=some (.int .i64 i))(hi:i=(k:Int))(hk:k<s.size):
 Val P μ l L ⟨ds,.index t p q,ty,pos,af,gd⟩ (.int .u8 (bAt s k)):=fun a w hs=>by
 have e0:=hs.eval hx0;have e1:=hs.eval hx1;generalize a.eval=ρ at e0 e1;subst hi;simp[execOp,e0,e1,aAz ht hk]
theorem aQi{x y:Operand}{ts:Array TypeId}{i j:Int}(h0:ev l x=some (.int .i64 i))(h1:ev l y=some (.int .i64 j)):Val P μ l L ⟨ds,.call { callee:=.builtin .max,args:= #[x,y],argTypes:=ts },ty,pos,af,gd⟩ (.int .i64 (if i<j then j else i)):=fun a w hs=>by
 have e0:=hs.eval h0;have e1:=hs.eval h1;generalize a.eval=ρ at e0 e1;simp[execOp,resolve,invoke,builtin,Builtin.max_,Builtin.max2,e0,e1]
abbrev bl(s:ByteArray):List UInt8:=s.data.toList
theorem EJ(s:ByteArray):(bl s).length=s.size:=by simp[bl]
theorem aCw{s t:ByteArray}(h:bl s=bl t):s=t:=by
 cases s;cases t;simp only[bl]at h;congr;exact Array.toList_inj.1 h
theorem aCx(s:ByteArray)(a b:Nat):bl (s.extract a b)=((bl s).drop a).take (b-a):=by
 simp[bl,ByteArray.data_extract]
theorem aO8{s:ByteArray}{k:Nat}{b:UInt8}(h:(bl s)[k]? =some b):bAt s k=b.toNat:=by
 unfold bAt;rw[h];rfl
end
end
section
open Go.RowKit
theorem SA:∀{xs:List Value},FG xs xs=true→GM xs xs=true
 |[],_=>rfl
 | x::xs,h=>by
   simp only[FG,aM]at h;have h1:eqV x x=true:=by cases x<;>simp[okV,eqV]at*
   simp only[GM,h1,SA h.2,Bool.and_self]
section
variable{P:Program}{μ:Mem}{l:bS}{L:List Bk}{ds:Option Nat}{ty:TypeId}{pos:String}{af:Array Edge}{gd:Option (Nat×Bool)}
theorem aMa{p q:Operand}{t t2:TypeId}{xs:List Value}(hx0:ev l p=some (.agg xs.toArray))(hx1:ev l q=some (.agg xs.toArray))(hv:FG xs xs=true)(a:P.underlying t=some (.struct (P.fieldsOf t)))(c:P.stoodInHeld t=false)(hg:P.eqGuardType P.depth t=false)
 (b:nJ P 0 (P.fieldsOf t).toList (xs.map codeOf)=true):Val P μ l L ⟨ds,.binOp .neq t p q t2,ty,pos,af,gd⟩ (.bool false):=by
 have:=VU (μ:=μ) (L:=L) (ds:=ds) (ty:=ty) (pos:=pos) (af:=af) (gd:=gd) (t2:=t2) hx0 hx1 hv a c hg b;rwa[SA hv]at this
end
section
variable{P:Program}{μ:Mem}{l:bS}{L:List Bk}{a:Act}{w:World}
def RVs(P:Program)(μ:Mem)(l:bS)(L:List Bk):List ResultVar→List Value→Prop
 |[],[]=>True
 |r::rs,v::vs=>RV P μ l L r v∧RVs P μ l L rs vs
 |_,_=>False
theorem kW:RVs P μ l L [] []:=trivial
theorem jD{r:ResultVar}{rs:List ResultVar}{v:Value}{vs:List Value}(h:RV P μ l L r v)(hs:RVs P μ l L rs vs):RVs P μ l L (r::rs) (v::vs):=⟨h,hs⟩
theorem FA(hs:Rd μ l L a w):∀{rs:List ResultVar} {vs:List Value},RVs P μ l L rs vs→(rs.mapM (ResultVar.get a.tmps)).run P w=.ok vs w
 |[],[],_=>by simp
 | r::rs,v::vs,h=>by have h1:=h.1 a w hs;have h2:=FA hs h.2;simp[List.mapM_cons,h1,h2]
 |[],_::_,h=>by cases h
 |_::_,[],h=>by cases h
theorem WS{fn:Func}{rs:List ResultVar}{vs:List Value}(hr:fn.results=rs.toArray)(h:RVs P μ l L rs vs)(hl:Nat.beq vs.length 1=false)(hs:Rd μ l L a w):(results fn a.tmps).run P w=.ok (.tuple vs.toArray) w:=by
 have h1:=FA hs h;have h2:¬vs.length=1:=Nat.ne_of_beq_eq_false hl;have e:results fn a.tmps=(do let vs←rs.toArray.mapM (ResultVar.get a.tmps);pure (if h:vs.size=1 then vs[0]else .tuple vs)):=by unfold results;rw[hr];refine congrArg (fun f=>(rs.toArray.mapM f>>=fun vs=>pure (if h:vs.size=1 then vs[0]else .tuple vs):Sem Value)) ?_;funext r;cases r<;>rfl
 rw[e];simp only[List.mapM_toArray];simp[h1,h2]
theorem HI{fn:Func}{n:Nat}{rs:List ResultVar}{vs:List Value}{v:Value}{w:World}{μ0:Mem}(hr:fn.results=rs.toArray)(h:RVs P μ l L rs vs)(hl:Nat.beq vs.length 1=false)(e: .tuple vs.toArray=v):
 GQ ⟨w,μ0,[],n⟩ (bodyPost P fn (fun e w' =>e=.returned v∧Below w.heap.size w w')) .ret μ l L:=fun a w' hs=>
 ⟨hs.defers.none (by simp),.tuple vs.toArray,WS hr h hl hs.rd,by rw[e],hs.gX.below⟩
end
end
section
open Go.RowKit Go.MapKept
section
variable{P:Program}{X:Ctx}{ops:Array Oper}{Q:Exit→Act→World→Prop}{rest:List Oper}{μ μr:Mem}{l:bS}{L Lr:List Bk}{a:Act}{w:World}{o:Oper}{d fuel i:Nat}{listed:Array Bool}
variable{ty:TypeId}{pos:String}{af:Array Edge}{gd:Option (Nat×Bool)}{ds:Option Nat}
theorem St.aT2(h:St X μ l L a w)(x:Obj)(y:Bk)(hid:Bk.id y=some w.heap.size)(e:Bk.at y (w.alloc x)):St X μ l (y::L) a (w.alloc x):=by
 have hold:∀b,b<w.heap.size→(w.alloc x).heap[b]? =w.heap[b]? :=fun b hb=>Below.heap_alloc w _ b hb;have hlt:∀x∈L,∀b,Bk.id x=some b→b<w.heap.size:=fun x c b hb=>Bk.lt (h.own x c) hb;refine⟨h.size,h.defers,h.slots,⟨h.gX.os,h.gX.tape,h.gX.output,dU h.gX.size (by simp),fun b hb g=>?_⟩,fun b o hb=>?_,h.from0,h.fresh,fun x c=>?_,fun x c b hb=>?_,fun x c b hb=>?_,?_⟩
 ·rw[hold b (eU hb h.gX.size)];exact h.gX.block b hb g
 ·have:=h.mem b o hb;rw[hold b (Array.getElem?_eq_some_iff.1 this).1];exact this
 ·rcases aR.1 c with rfl|c
  ·exact e
  ·exact Bk.gX (h.own x c) (fun b hb=>hold b (hlt x c b hb))
 ·rcases aR.1 c with rfl|c
  ·rw[hid]at hb;cases hb;cases hm:μ w.heap.size with
   |none=>rfl
   | some o=>
     have:=(Array.getElem?_eq_some_iff.1 (h.mem _ _ hm)).1;omega
  ·exact h.priv x c b hb
 ·rcases aR.1 c with rfl|c
  ·rw[hid]at hb;cases hb;exact .inr h.gX.size
  ·exact h.new x c b hb
 ·refine List.pairwise_cons.2 ⟨fun y e b hb f=>?_,h.diff⟩;have h1:=hlt y e b f;rw[hid]at hb;have h2:w.heap.size=b:=eC hb;omega
theorem UN{t:TypeId}(hn:Nat.blt d X.n=true)(hw:iF ops l ⟨some d,.makeMap t none,ty,pos,af,gd⟩=some true)
 (h:∀b,G P X ops Q rest μ ((d,.map (some b))::l) (.mp ⟨b,[],0⟩::L)):G P X ops Q (⟨some d,.makeMap t none,ty,pos,af,gd⟩::rest) μ l L:=
 AH hw fun a w hs=>by
  have e:(execOp a.eval ⟨some d,.makeMap t none,ty,pos,af,gd⟩).run P w=.ok (.value (.map (some w.heap.size))) (w.alloc (.map #[] 0)):=by simp[execOp,run_makeMap]
  unfold Oper.wp;rw[e,Oper.upon_value];exact h _ _ _ ((hs.aT2 (.map #[] 0) (.mp ⟨w.heap.size,[],0⟩) rfl (heap_alloc_new w _)).put hn _)
def InM(L:List Bk)(b:Nat)(m:Mp):Prop:=∃i,iI L i=some (.mp m)∧m.b=b
theorem sH{b ck:Nat}{es:List MapEntry}{L:List Bk}:InM (.mp ⟨b,es,ck⟩::L) b ⟨b,es,ck⟩:=⟨0,rfl,rfl⟩
theorem sG{b:Nat}{m:Mp}{x:Bk}{L:List Bk}(h:InM L b m):InM (x::L) b m:=by
 obtain⟨i,h1,h2⟩:=h;exact⟨i+1,h1,h2⟩
def UpM(L:List Bk)(b:Nat)(m:Mp)(F:Mp→List Bk):Prop:=∃i,iI L i=some (.mp m)∧m.b=b∧∀m',F m' =fT L i (.mp m')
theorem uL{b ck:Nat}{es:List MapEntry}{L:List Bk}:UpM (.mp ⟨b,es,ck⟩::L) b ⟨b,es,ck⟩ (fun m=>.mp m::L):=⟨0,rfl,rfl,fun _=>rfl⟩
theorem wD{b:Nat}{m:Mp}{x:Bk}{L:List Bk}{F:Mp→List Bk}(h:UpM L b m F):UpM (x::L) b m (fun m=>x::F m):=by
 obtain⟨i,h1,h2,h3⟩:=h;exact⟨i+1,h1,h2,fun m' =>by show x::F m' =x::fT L i (.mp m');rw[h3]⟩
theorem vT{t kt et:TypeId}{dk:TypeDesc}{b ck:Nat}{es:List MapEntry}{k v:Value}(ht:P.underlying t=some (.map kt et))(hk:P.underlying kt=some dk)(a:IsKey dk k)
 (hb:w.heap[b]? =some (.map es.toArray ck))(hf:Instr.findNow dk k es 0=some none):(Instr.mapUpdate t (.map (some b)) k v).run P w=.ok () { w with heap:=w.heap.setIfInBounds b (.map (es++[MapEntry.mk k v ck]).toArray (ck+1)) }:=by
 simp[Instr.mapUpdate,run_underlying ht,MapKept.run_getObj_map hb,MapKept.run_checkKey hk a,MapKept.run_findKey hk hf,MapKept.run_setObj_map _ hb]
theorem FY{t kt et:TypeId}{dk:TypeDesc}{m k x:Operand}{b ck:Nat}{es:List MapEntry}{kv v:Value}{F:Mp→List Bk}{op:Op}(g:op=.insert t m k x∨op=.mapUpdate t m k x)(hw:iF ops l ⟨none,op,ty,pos,af,gd⟩=some true)(hm:ev l m=some (.map (some b)))(hk:ev l k=some kv)(o:ev l x=some v)
 (ht:P.underlying t=some (.map kt et))(j:P.underlying kt=some dk)(f:IsKey dk kv)(hu:UpM L b ⟨b,es,ck⟩ F)(hf:Instr.findNow dk kv es 0=some none)
 (h:G P X ops Q rest μ l (F ⟨b,es++[MapEntry.mk kv v ck],ck+1⟩)):G P X ops Q (⟨none,op,ty,pos,af,gd⟩::rest) μ l L:=
 AH hw fun a w hs=>by
  obtain⟨i,hi,_,p⟩:=hu;have hb:w.heap[b]? =some (.map es.toArray ck):=hs.own _ (fB hi);have e1:=hs.eval hm;have e2:=hs.eval hk;have e3:=hs.eval o;have e:(execOp a.eval ⟨none,op,ty,pos,af,gd⟩).run P w=.ok .skip { w with heap:=w.heap.setIfInBounds b (.map (es++[MapEntry.mk kv v ck]).toArray (ck+1)) }:=by generalize a.eval=ρ at e1 e2 e3;rcases g with rfl|rfl<;>simp[execOp,e1,e2,e3,vT ht j f hb hf]
  unfold Oper.wp
  rw[e,Oper.upon_skip];have hlt:=(Array.getElem?_eq_some_iff.1 hb).1;have:=hs.upd hi (y:=.mp ⟨b,es++[MapEntry.mk kv v ck],ck+1⟩) (w' :={ w with heap:=w.heap.setIfInBounds b (.map (es++[MapEntry.mk kv v ck]).toArray (ck+1)) }) rfl rfl rfl (by simp)
   (fun c hc hne=>by
     have:b≠c:=fun e=>hne (by rw[e];rfl);simp[dH this])
   (by show(w.heap.setIfInBounds b _)[b]? =_;rw[cT hlt])
   (fun c hc=>.inl hc)
  rw[p]at h;exact h _ _ this
def qU(P:Program)(et:TypeId):Option (Option (Nat×Value))→Option (Value×Bool)
 |some (some (_,v))=>some (v,true)
 | some none=>match oL P et with
   |some z=>some (z,false)
   |none=>none
 |none=>none
theorem LX{t kt et:TypeId}{dk:TypeDesc}{b ck:Nat}{es:List MapEntry}{k v:Value}{ok c:Bool}(ht:P.underlying t=some (.map kt et))(hk:P.underlying kt=some dk)(a:IsKey dk k)
 (hb:w.heap[b]? =some (.map es.toArray ck))(hf:qU P et (Instr.findNow dk k es 0)=some (v,ok)):(Instr.lookup t (.map (some b)) k c).run P w=.ok (if c then .tuple #[v,.bool ok]else v) w:=by
 cases hr:Instr.findNow dk k es 0 with
 |none=>simp[hr,qU]at hf
 | some r=>
   cases r with
   | none=>
     simp only[hr,qU]at hf;split at hf
     ·rename_i z e;simp only[aW,cV]at hf;obtain⟨rfl,rfl⟩:=hf;simp[Instr.lookup,run_underlying ht,MapKept.run_getObj_map hb,MapKept.run_checkKey hk a,MapKept.run_findKey hk hr,oF e];try(cases c<;>rfl)
     ·cases hf
   | some r=>
     obtain⟨j,u⟩:=r;simp only[hr,qU,aW,cV]at hf;obtain⟨rfl,rfl⟩:=hf;simp[Instr.lookup,run_underlying ht,MapKept.run_getObj_map hb,MapKept.run_checkKey hk a,MapKept.run_findKey hk hr];try(cases c<;>rfl)
theorem oQ{t kt et:TypeId}{dk:TypeDesc}{m k:Operand}{b ck:Nat}{es:List MapEntry}{kv v:Value}{ok:Bool}(hm:ev l m=some (.map (some b)))(hk:ev l k=some kv)(ht:P.underlying t=some (.map kt et))(f:P.underlying kt=some dk)(e:IsKey dk kv)
 (hu:InM L b ⟨b,es,ck⟩)(hf:qU P et (Instr.findNow dk kv es 0)=some (v,ok)):Val P μ l L ⟨ds,.lookup t m k false,ty,pos,af,gd⟩ v:=fun a w hs=>by
 obtain⟨i,hi,_⟩:=hu;have hb:w.heap[b]? =some (.map es.toArray ck):=hs.own _ (fB hi);have e1:=hs.eval hm;have e2:=hs.eval hk;generalize a.eval=ρ at e1 e2;simp[execOp,e1,e2,LX (c:=false) ht f e hb hf]
end
end
section
open Go.RowKit
def lH:List Bk→List Nat
 |[]=>[]
 | x::r=>match Bk.id x with
   |some b=>b::lH r
   |none=>lH r
theorem sF{L:List Bk}{b:Nat}:b∈lH L↔ ∃x∈L,Bk.id x=some b:=by
 induction L with
 |nil=>simp[lH]
 | cons y r ih=>
   unfold lH;cases h:Bk.id y with
   |none=>simp[ih,h]
   | some c=>
     simp only[aR,ih,exists_eq_or_imp,h,aW];constructor
     ·rintro(rfl|h)<;>simp[*]
     ·rintro(rfl|h)<;>simp[*]
structure Own (μ:Mem) (L:List Bk) (w:World):Prop where
 own:∀x∈L,Bk.at x w
 priv:∀x∈L,∀b,Bk.id x=some b→μ b=none
 diff:L.Pairwise (fun x y=>∀b,Bk.id x=some b→Bk.id y≠some b)
structure aU0 (M:List Nat) (w w' :World) (μ μ' :Mem):Prop where
 os:w'.os=w.os
 tape:w'.tape=w.tape
 output:w'.output=w.output
 size:w.heap.size≤w'.heap.size
 block:∀b,b<w.heap.size→b∉M→w'.heap[b]? =w.heap[b]?
 le:MLe μ μ'
 ok:MOk μ' w'
 fresh:∀b,b<w.heap.size→b∉M→μ b=none→μ' b=none
def mW(M:List Nat)(w w' :World)(μ:Mem)(L' :List Bk)(μ' :Mem):Prop:=
 aU0 M w w' μ μ' ∧Own μ' L' w' ∧∀x∈L',∀b,Bk.id x=some b→b∈M∨w.heap.size≤b
section
variable{P:Program}{X:Ctx}{ops:Array Oper}{Q:Exit→Act→World→Prop}{rest:List Oper}{μ:Mem}{l:bS}{L:List Bk}{a:Act}{w:World}{o:Oper}{d:Nat}
theorem St.aSy{LB Lr L' :List Bk}{w' :World}{μ' :Mem}(h:St X μ l (LB++Lr) a w)(hb:mW (lH LB) w w' μ L' μ'):St X μ' l (L' ++Lr) a w' :=by
 obtain⟨hg,ho,hn⟩:=hb;have hd:=List.pairwise_append.1 h.diff;have hlt:∀x∈LB++Lr,∀b,Bk.id x=some b→b<w.heap.size:=fun x c b hb=>Bk.lt (h.own x c) hb;have f:∀b∈lH LB,b∈X.M∨X.w0.heap.size≤b:=fun b hb=>by obtain⟨x,c,e⟩:=sF.1 hb;exact h.new x (cC _ c) b e
 have hr:∀x∈Lr,∀b,Bk.id x=some b→b∉lH LB:=fun x c b e hb=>by obtain⟨y,o,g⟩:=sF.1 hb;exact hd.2.2 y o x c b g e
 refine⟨h.size,h.defers.mono hg.le,h.slots,⟨hg.os.trans h.gX.os,hg.tape.trans h.gX.tape,hg.output.trans h.gX.output,dU h.gX.size hg.size,fun b hb j=>?_⟩,hg.ok,h.from0.trans hg.le,fun b hb j h0=>?_,fun x c=>?_,fun x c b e=>?_,fun x c b e=>?_,?_⟩
 ·have:b∉lH LB:=fun i=>by
   rcases f b i with h1|h1
   ·exact j h1
   ·omega
  rw[hg.block b (eU hb h.gX.size) this];exact h.gX.block b hb j
 ·have:b∉lH LB:=fun i=>by
   rcases f b i with h1|h1
   ·exact j h1
   ·omega
  exact hg.fresh b (eU hb h.gX.size) this (h.fresh b hb j h0)
 ·rcases List.mem_append.1 c with c|c
  ·exact ho.own x c
  ·exact Bk.gX (h.own x (dG _ c)) fun b hb=>hg.block b (hlt x (dG _ c) b hb) (hr x c b hb)
 ·rcases List.mem_append.1 c with c|c
  ·exact ho.priv x c b e
  ·exact hg.fresh b (hlt x (dG _ c) b e) (hr x c b e) (h.priv x (dG _ c) b e)
 ·rcases List.mem_append.1 c with c|c
  ·rcases hn x c b e with h1|h1
   ·exact f b h1
   ·exact .inr (dU h.gX.size h1)
  ·exact h.new x (dG _ c) b e
 ·refine List.pairwise_append.2 ⟨ho.diff,hd.2.1,fun x c y o b e g=>?_⟩;rcases hn x c b e with h1|h1
  ·exact hr y o b g h1
  ·have:=hlt y (dG _ o) b g;omega
def splitB:Nat→List Bk→Option (List Bk×List Bk)
 |0,L=>some ([],L)
 |_+1,[]=>none
 | k+1,x::r=>match splitB k r with
   |some (a,b)=>some (x::a,b)
   |none=>none
theorem qQ:∀{k:Nat} {L a b:List Bk},splitB k L=some (a,b)→L=a++b
 |0,L,a,b,h=>by simp[splitB]at h;obtain⟨rfl,rfl⟩:=h;rfl
 |k+1,[],a,b,h=>by simp[splitB]at h
 | k+1,x::r,a,b,h=>by
   unfold splitB at h;split at h
   ·rename_i a' b' he;cases h;rw[qQ he];rfl
   ·cases h
theorem oU{f:FuncId}{vs:Array Value}{ι:Type}{Ls:ι→List Bk}{Post:Mem→Value→ι→Prop}{LB Lr:List Bk}(k:Nat)(hd:o.dst=some d)(hn:Nat.blt d X.n=true)(hw:iF ops l o=some true)(hr:Ent P μ l L o f vs)
 (hL:splitB k L=some (LB,Lr))
 (hc:∀w,MOk μ w→Own μ LB w→Calls P f vs w fun e w' =>∃v μ' i,e=.returned v∧mW (lH LB) w w' μ (Ls i) μ' ∧Post μ' v i)
 (h:∀v μ' i,MLe μ μ' →Post μ' v i→G P X ops Q rest μ' ((d,v)::l) (Ls i++Lr)):G P X ops Q (o::rest) μ l L:=
 AH hw fun a w hs=>by
  unfold Oper.wp;rw[hr a w hs.rd,Oper.upon_enter];have he:=qQ hL;subst he;have g:Own μ LB w:=⟨fun x b=>hs.own x (cC _ b),fun x b=>hs.priv x (cC _ b),(List.pairwise_append.1 hs.diff).1⟩;refine(hc w hs.mem g).mono fun e w' he=>?_;obtain⟨v,μ',i,rfl,hb,c⟩:=he;show wpList P ops Q rest (a.put o.dst v) w'
  rw[hd];exact h v μ' i hb.1.le c _ _ ((hs.aSy hb).put hn _)
theorem cI{f:FuncId}{fn:Func}{c:Code}{args:List Value}{n:Nat}{R:Ending→World→Prop}{LB:List Bk}(hf:P.funcs[f]? =some fn)(hb:fn.body=some c)(hn:fn.ntmps=n)(i:args.length≤n)
 (hμ:MOk μ w)(e:Own μ LB w)(h:GC P ⟨w,μ,lH LB,n⟩ c (bodyPost P fn R) μ (idx 0 args) LB):Calls P f args.toArray w R:=by
 refine calls_of_wp hf hb (h _ _ ⟨?_,Marks.nil,fun t v hv=>?_,aAc.refl _ _,hμ,MLe.refl _,fun _ _ _ h=>h,e.own,e.priv,fun x g b a=>.inl (sF.2 ⟨x,g,a⟩),e.diff⟩)
 ·simp[hn];omega
 ·obtain⟨_,h2⟩:=zU _ _ _ _ hv;have hlt:t<args.length:=by have:=(List.getElem?_eq_some_iff.1 h2).1;simpa using this
  simp only[dK]at h2;rw[kG (by simpa using hlt)];simpa using h2
theorem St.NP{n:Nat}{μ0:Mem}{w' :World}{M:List Nat}{L' Lr:List Bk}(hs:St ⟨w,μ0,M,n⟩ μ l (L' ++Lr) a w'):∃μ',mW M w w' μ0 L' μ' ∧MLe μ μ' :=by
 have hd:=List.pairwise_append.1 hs.diff;refine⟨fun b=>if b<w.heap.size then μ b else if b∈lH L' then none else w'.heap[b]?,⟨⟨hs.gX.os,hs.gX.tape,hs.gX.output,hs.gX.size,hs.gX.block,fun b o e=>?_,fun b o e=>?_,fun b hb h h0=>?_⟩,⟨fun x g=>hs.own x (cC _ g),fun x g b c=>?_,hd.1⟩,fun x g=>hs.new x (cC _ g)⟩,fun b o e=>?_⟩
 ·have e2:=hs.from0 b o e;by_cases hb:b<w.heap.size
  ·simp[hb,e2]
  ·have:b∉lH L' :=fun f=>by obtain⟨x,g,c⟩:=sF.1 f;rw[hs.priv x (cC _ g) b c]at e2;cases e2
   simp[hb,this];exact hs.mem b o e2
 ·by_cases hb:b<w.heap.size
  ·simp[hb]at e;exact hs.mem b o e
  ·by_cases f:b∈lH L'
   ·simp[hb,f]at e
   ·simp[hb,f]at e;exact e
 ·simp[hb];exact hs.fresh b hb h h0
 ·have:=hs.priv x (cC _ g) b c;by_cases hb:b<w.heap.size
  ·simp[hb,this]
  ·simp[hb,sF.2 ⟨x,g,c⟩]
 ·by_cases hb:b<w.heap.size
  ·simp[hb,e]
  ·have:b∉lH L' :=fun f=>by obtain⟨x,g,c⟩:=sF.1 f;rw[hs.priv x (cC _ g) b c]at e;cases e
   simp[hb,this];exact hs.mem b o e
theorem KE{fn:Func}{n:Nat}{r:ResultVar}{v:Value}{μ0:Mem}{M:List Nat}{ι:Type}{Ls:ι→List Bk}{Post:Mem→Value→ι→Prop}{L' Lr:List Bk}(k:Nat)(i:ι)(f:∀D,M.count D≤1)(hr:fn.results= #[r])(h:RV P μ l L r v)(hL:splitB k L=some (L',Lr))(b:Ls i=L')
 (c:∀μ',MLe μ μ' →Post μ' v i):
 GQ ⟨w,μ0,M,n⟩ (bodyPost P fn (fun e w' =>∃v μ' i,e=.returned v∧mW M w w' μ0 (Ls i) μ' ∧Post μ' v i)) .ret μ l L:=fun a w' hs=>by
 have he:=qQ hL;subst he;obtain⟨μ',hb,hle⟩:=hs.NP;subst b;exact⟨hs.defers.none f,v,results1 hr h hs.rd,v,μ',i,rfl,hb,c μ' hle⟩
theorem aIp{fn:Func}{n:Nat}{μ0:Mem}{M:List Nat}{ι:Type}{Ls:ι→List Bk}{Post:Mem→Value→ι→Prop}{L' Lr:List Bk}{e:Exit}(k:Nat)(i:ι)(he:e=.ret∨e=.normal)(g:∀D,M.count D≤1)(hr:fn.results= #[])(hL:splitB k L=some (L',Lr))(c:Ls i=L')
 (f:∀μ' v,MLe μ μ' →Post μ' v i):
 GQ ⟨w,μ0,M,n⟩ (bodyPost P fn (fun e w' =>∃v μ' i,e=.returned v∧mW M w w' μ0 (Ls i) μ' ∧Post μ' v i)) e μ l L:=fun a w' hs=>by
 have b:=qQ hL;subst b;obtain⟨μ',hb,hle⟩:=hs.NP;subst c;have:∃v,(results fn a.tmps).run P w' =.ok v w' :=by simp[results,hr]
 obtain⟨v,hv⟩:=this;rcases he with rfl|rfl
 all_goals exact⟨hs.defers.none g,v,hv,v,μ',i,rfl,hb,f μ' v hle⟩
end
end
section
open Go.RowKit
theorem dW:∀{L:List Bk},L.Pairwise (fun x y=>∀b,Bk.id x=some b→Bk.id y≠some b)→∀D,(lH L).count D≤1
 |[],_,D=>by simp[lH]
 | x ::r,h,D=>by
   obtain⟨h1,h2⟩:=List.pairwise_cons.1 h;have ih:=dW h2 D;unfold lH;cases f:Bk.id x with
   |none=>exact ih
   | some c=>
     dsimp only;rw[List.count_cons];by_cases hc:c=D
     ·subst hc;have:(lH r).count c=0:=List.count_eq_zero.2 fun hm=>by obtain⟨y,e,a⟩:=sF.1 hm;exact h1 y e c f a
      simp[this]
     ·simp[hc];exact ih
end
section
open Go.RowKit
inductive kZ:Bk→Bk→Prop
 |refl (x:Bk):kZ x x
 |cells {b:Nat} {t:TypeId} {sz:Nat} {cs cs' :bS} (h:wN cs' cs):kZ (.inl ⟨b,t,sz,cs'⟩) (.inl ⟨b,t,sz,cs⟩)
inductive Sel:List Bk→List Bk→Prop
 |nil (L:List Bk):Sel [] L
 |cons {x y:Bk} {r a b:List Bk} (h:kZ x y) (hr:Sel r (a++b)):Sel (x::r) (a++y::b)
theorem kZ.id{x y:Bk}(h:kZ x y):Bk.id x=Bk.id y:=by cases h<;>rfl
theorem kZ.at{x y:Bk}{w:World}(h:kZ x y)(a:Bk.at y w):Bk.at x w:=by
 cases h with
 |refl=>exact a
 | cells h=>
   obtain⟨arr,h1,h2,h3⟩:=a;exact⟨arr,h1,h2,fun k v hk=>h3 k v (h k v hk)⟩
theorem KC{L' L:List Bk}(h:Sel L' L):∀x∈L',∃y∈L,kZ x y:=by
 induction h with
 |nil L=>intro x c;cases c
 | cons h hr ih=>
   intro z b;rcases aR.1 b with rfl|b
   ·exact⟨_,by simp,h⟩
   ·obtain⟨y,a,hle⟩:=ih z b;refine⟨y,?_,hle⟩;rcases List.mem_append.1 a with a|a<;>simp[a]
def Df(x y:Bk):Prop:=∀b,Bk.id x=some b→Bk.id y≠some b
theorem aIf{L' L:List Bk}(h:Sel L' L):L.Pairwise Df→L'.Pairwise Df:=by
 induction h with
 |nil L=>intro _;exact List.Pairwise.nil
 | @cons x y r a b h hr ih=>
   intro hd;have i:(y::(a++b)).Pairwise Df:=(gW.pairwise_iff (fun{_ _} g b hb j=>g b j hb)).1 hd;obtain⟨h1,h2⟩:=List.pairwise_cons.1 i;refine List.pairwise_cons.2 ⟨fun z l c hc e=>?_,ih h2⟩;obtain⟨y2,f,hle⟩:=KC hr z l;exact h1 y2 f c (by rw[←h.id];exact hc) (by rw[←hle.id];exact e)
section
variable{P:Program}{X:Ctx}{Q:Exit→Act→World→Prop}{μ:Mem}{l:bS}{L:List Bk}{a:Act}{w:World}
theorem St.sel{l' :bS}{L' :List Bk}(h:St X μ l L a w)(hl:wN l' l)(hL:Sel L' L):St X μ l' L' a w:=
 ⟨h.size,h.defers,fun t v hv=>h.slots t v (hl t v hv),h.gX,h.mem,h.from0,h.fresh,fun x e=>let ⟨y,c,hle⟩:=KC hL x e;hle.at (h.own y c),fun x e b hb=>let ⟨y,c,hle⟩:=KC hL x e;h.priv y c b (by rw[←hle.id];exact hb),fun x e b hb=>let ⟨y,c,hle⟩:=KC hL x e;h.new y c b (by rw[←hle.id];exact hb),aIf hL h.diff⟩
theorem fJ{ι:Type}{J:ι→Prop}{μs:ι→Mem}{ls:ι→bS}{Ls:ι→List Bk}(j:ι)(hJ:J j)(hμ:μs j=μ)(hl:wN (ls j) l)(hL:Sel (Ls j) L):
 GQ X (Exit.then (aPh X J μs ls Ls) Q) .normal μ l L:=fun a w hs=>⟨j,hJ,by rw[hμ];exact hs.sel hl hL⟩
theorem cY{ι:Type}{J:ι→Prop}{m:ι→Nat}{μs:ι→Mem}{ls:ι→bS}{Ls:ι→List Bk}{i:ι}(j:ι)(hJ:J j)(hm:m j<m i)(hμ:μs j=μ)(hl:wN (ls j) l)(hL:Sel (Ls j) L):
 GQ X (Exit.then (aL5 X J m μs ls Ls i) Q) .normal μ l L:=fun a w hs=>⟨j,hJ,hm,by rw[hμ];exact hs.sel hl hL⟩
theorem aB4{c:Code}{l' :bS}{L' :List Bk}(hl:wN l' l)(hL:Sel L' L)(h:GC P X c Q μ l' L'):GC P X c Q μ l L:=fun a w hs=>h a w (hs.sel hl hL)
theorem UH{e:Exit}{l' :bS}{L' :List Bk}(hl:wN l' l)(hL:Sel L' L)(h:GQ X Q e μ l' L'):GQ X Q e μ l L:=fun a w hs=>h a w (hs.sel hl hL)
theorem fA{x y:Bk}{r L:List Bk}(h:kZ x y)(hr:Sel r (L)):Sel (x::r) (y::L):=Sel.cons (a:=[]) h hr
theorem eB{x y:Bk}{y0:Bk}{r L:List Bk}(h:kZ x y)(hr:Sel r (y0::L)):Sel (x::r) (y0::y::L):=Sel.cons (a:=[y0]) h hr
theorem tB{x y:Bk}{y0 y1:Bk}{r L:List Bk}(h:kZ x y)(hr:Sel r (y0::y1::L)):Sel (x::r) (y0::y1::y::L):=Sel.cons (a:=[y0,y1]) h hr
theorem CM{x y:Bk}{y0 y1 y2:Bk}{r L:List Bk}(h:kZ x y)(hr:Sel r (y0::y1::y2::L)):Sel (x::r) (y0::y1::y2::y::L):=Sel.cons (a:=[y0,y1,y2]) h hr
theorem aPr{x y:Bk}{y0 y1 y2 y3:Bk}{r L:List Bk}(h:kZ x y)(hr:Sel r (y0::y1::y2::y3::L)):Sel (x::r) (y0::y1::y2::y3::y::L):=Sel.cons (a:=[y0,y1,y2,y3]) h hr
theorem aTp{x y:Bk}{y0 y1 y2 y3 y4 y5:Bk}{r L:List Bk}(h:kZ x y)(hr:Sel r (y0::y1::y2::y3::y4::y5::L)):Sel (x::r) (y0::y1::y2::y3::y4::y5::y::L):=Sel.cons (a:=[y0,y1,y2,y3,y4,y5]) h hr
theorem SW:∀{L:List Bk} {i:Nat} {x:Bk},iI L i=some x→fT L i x=L
 |[],_,_,h=>by simp[iI]at h
 |y::r,0,x,h=>by simp[iI]at h;simp[fT,h]
 |y::r,i+1,x,h=>by simp only[fT];rw[SW (i:=i) (by simpa[iI]using h)]
theorem St.aPw{i:Nat}{v:Value}{e s n n' :Nat}{xs xs' :List Value}(h:St X μ l L a w)(hi:iI L i=some (.inr ⟨v,e,s,n,xs⟩))(hn:n=n')(b:xs=xs'):St X μ l (fT L i (.inr ⟨v,e,s,n',xs'⟩)) a w:=by
 subst hn b;rw[SW hi];exact h
theorem gJ{ex:Exit}{v:Value}{e s n n' :Nat}{xs xs' :List Value}(i:Nat)(hi:iI L i=some (.inr ⟨v,e,s,n,xs⟩))(hn:n=n')(b:xs=xs')(h:GQ X Q ex μ l (fT L i (.inr ⟨v,e,s,n',xs'⟩))):GQ X Q ex μ l L:=fun a w hs=>h a w (hs.aPw hi hn b)
theorem oN{c:Code}(e s:Nat)(h:GC P X c Q μ l (.inr ⟨.slice none 0 0,e,s,0,[]⟩::L)):GC P X c Q μ l L:=fun a w hs=>h a w (hs.xY e s)
def GCs(P:Program)(X:Ctx)(c:Code)(Q:Exit→Act→World→Prop)(μ:Mem)(l:bS)(L:List Bk):Prop:=GC P X c Q μ l L
theorem dX{c:Code}(h:GCs P X c Q μ l L):GC P X c Q μ l L:=h
theorem gcs{c:Code}(h:GC P X c Q μ l L):GCs P X c Q μ l L:=h
end
end
section
open Go.RowKit
section
variable{P:Program}{X:Ctx}{ops:Array Oper}{Q:Exit→Act→World→Prop}{rest:List Oper}{μ μr:Mem}{l:bS}{L Lr:List Bk}{a:Act}{w:World}{o:Oper}{d fuel i:Nat}{listed:Array Bool}
variable{ty:TypeId}{pos:String}{af:Array Edge}{gd:Option (Nat×Bool)}{ds:Option Nat}
theorem Y0{b off:Nat}{vs:List Value}{L' :List Bk}(hg:G P X ops Q rest μ l L')
 (hd:aDp ops l o=true:=by exact rfl)
 (h:stop P l o.op=some (b,off,vs):=by exact rfl)
 (h1:VL vs:=by((repeat first|with_reducible exact fZ|((with_reducible apply eW);exact rfl));done))
 (hu:UpB L b off vs L' :=by((repeat first|with_reducible apply aH1|with_reducible apply aH0);exact rfl;(repeat first|with_reducible exact aBe|with_reducible apply TR);done)):
 G P X ops Q (o::rest) μ l L:=aUo (hd:=hd) (h:=h) (h1:=h1) (hu:=hu) (hg:=hg)
theorem J1{ι:Type}{J:ι→Prop}{μs:ι→Mem}{ls:ι→bS}{Ls:ι→List Bk}(j:ι)(hJ:J j)
 (hμ:μs j=μ:=by exact rfl)
 (hl:wN (ls j) l:=by((repeat first|exact gC|refine eS rfl ?_);done))
 (hL:Sel (Ls j) L:=by((repeat first|exact Sel.nil _|(refine fA ?_ ?_;focus(first|exact kZ.refl _|(refine kZ.cells ?_;repeat first|exact gC|refine eS rfl ?_)))|(refine eB ?_ ?_;focus(first|exact kZ.refl _|(refine kZ.cells ?_;repeat first|exact gC|refine eS rfl ?_)))|(refine tB ?_ ?_;focus(first|exact kZ.refl _|(refine kZ.cells ?_;repeat first|exact gC|refine eS rfl ?_))));done)):
 GQ X (Exit.then (aPh X J μs ls Ls) Q) .normal μ l L:=fJ (j:=j) (hJ:=hJ) (hμ:=hμ) (hl:=hl) (hL:=hL)
theorem J2{ι:Type}{J:ι→Prop}{m:ι→Nat}{μs:ι→Mem}{ls:ι→bS}{Ls:ι→List Bk}{i:ι}(j:ι)(hJ:J j)(hm:m j<m i)
 (hμ:μs j=μ:=by exact rfl)
 (hl:wN (ls j) l:=by((repeat first|exact gC|refine eS rfl ?_);done))
 (hL:Sel (Ls j) L:=by((repeat first|exact Sel.nil _|(refine fA ?_ ?_;focus(first|exact kZ.refl _|(refine kZ.cells ?_;repeat first|exact gC|refine eS rfl ?_)))|(refine eB ?_ ?_;focus(exact kZ.refl _))|(refine tB ?_ ?_;focus(exact kZ.refl _)));done)):
 GQ X (Exit.then (aL5 X J m μs ls Ls i) Q) .normal μ l L:=cY (j:=j) (hJ:=hJ) (hm:=hm) (hμ:=hμ) (hl:=hl) (hL:=hL)
theorem J4{ι:Type}{J:ι→Prop}{m:ι→Nat}{μs:ι→Mem}{ls:ι→bS}{Ls:ι→List Bk}{i:ι}(j:ι)(hJ:J j)(hm:m j<m i)
 (hμ:μs j=μ:=by exact rfl)
 (hl:wN (ls j) l:=by((repeat first|exact gC|refine eS rfl ?_);done))
 (hL:(Ls j).Sublist L:=by((repeat exact bQ _);done)):
 GQ X (Exit.then (aL5 X J m μs ls Ls i) Q) .normal μ l L:=KL (j:=j) (hJ:=hJ) (hm:=hm) (hμ:=hμ) (hl:=hl) (hL:=hL)
theorem J5{l' :bS}{L' :List Bk}(h:St X μ l L a w)
 (hl:wN l' l:=by((repeat first|exact gC|refine eS rfl ?_);done))
 (hL:Sel L' L:=by((repeat first|exact Sel.nil _|(refine fA ?_ ?_;focus(first|exact kZ.refl _|(refine kZ.cells ?_;repeat first|exact gC|refine eS rfl ?_)))|(refine eB ?_ ?_;focus(exact kZ.refl _)));done)):
 St X μ l' L' a w:=St.sel (h:=h) (hl:=hl) (hL:=hL)
theorem J6{X:Ctx}{μ:Mem}{l l' :bS}{L L' :List Bk}{a:Act}{w:World}(h:St X μ l L a w)
 (hl:wN l' l:=by((repeat first|exact gC|refine eS rfl ?_);done))
 (hL:L'.Sublist L:=by((repeat exact bQ _);done)):
 St X μ l' L' a w:=St.sub (h:=h) (hl:=hl) (hL:=hL)
theorem D1{v:Value}(i:Nat)(hg:GA P X μr Lr ops Q fuel (listed.setIfInBounds i true) μ ((d,v)::l) L)
 (h:KF P X.n ops l i=some (d,v):=by exact rfl)
 (hk:yH ops listed i=true:=by kernel_rfl)
 (hQ:∀c a w,Q (.panic c) (Act.put a (some d) v) w→Q (.panic c) a w:=by exact fun _ _ _ h=>h):
 GA P X μr Lr ops Q (fuel+1) listed μ l L:=aUm (i:=i) (h:=h) (hk:=hk) (hQ:=hQ) (hg:=hg)
theorem D3  (i:Nat)(h:eV P X μr Lr ops Q fuel listed i μ l L)
 (hr:Region.ready .any ops listed=[i]:=by kernel_rfl):
 GA P X μr Lr ops Q (fuel+1) listed μ l L:=aOc (i:=i) (hr:=hr) (h:=h)
theorem D5  (h:G P X ops (QA Q (fun a w=>Sm μr Lr w∧wpAnyH P .any ops Q (Sm μr Lr) fuel (listed.setIfInBounds i true) a w)) [o] μ l L)
 (ho:wY ops.toList i=some o:=by exact rfl):
 eV P X μr Lr ops Q fuel listed i μ l L:=aR8 (ho:=ho) (h:=h)
theorem D6{i:Nat}(h:GA P X μr Lr ops Q fuel (listed.setIfInBounds i true) μ ((d,undef)::l) L)
 (ho:wY ops.toList i=some o:=by exact rfl)
 (hd:o.dst=some d:=by exact rfl)
 (hn:Nat.blt d X.n=true:=by exact rfl)
 (hw:iF ops l o=some false:=by exact rfl):
 eV P X μr Lr ops Q fuel listed i μ l L:=aGx (ho:=ho) (hd:=hd) (hn:=hn) (hw:=hw) (h:=h)
theorem D7{t:Nat}{b:Bool}(i:Nat)(hg:PIf b (GA P X μr Lr ops Q fuel listed μ ((t,.bool true)::l) L) (GA P X μr Lr ops Q fuel listed μ ((t,.bool false)::l) L))
 (ho:wY ops.toList i=some o:=by exact rfl)
 (h:RJ ops l o=some (t,b):=by exact rfl)
 (hb:PD b:=by(fail_if_success (with_reducible show PD true));(fail_if_success (with_reducible show PD false));exact aT3 _):
 GA P X μr Lr ops Q fuel listed μ l L:=aUn (i:=i) (ho:=ho) (h:=h) (hb:=hb) (hg:=hg)
theorem D8  (h:GQ X Q .normal μ l L)
 (hr:Region.ready .any ops listed=[]:=by kernel_rfl):
 GA P X μr Lr ops Q fuel listed μ l L:=aOa (hr:=hr) (h:=h)
theorem D9  (h:GA P X μr Lr ops Q fuel listed μ l L)
 (hle:MLe μr μ:=by first|exact MLe.refl _|assumption|(focus(repeat(first|assumption|(apply MLe.trans;rotate_left;assumption))));done)
 (hLr:Lr.Sublist L:=by((repeat first|exact bQ _|exact aT|refine aD ?_|refine cP ?_);done)):
 G P X ops (QA Q (fun a w=>Sm μr Lr w∧wpAnyH P .any ops Q (Sm μr Lr) fuel listed a w)) [] μ l L:=aKb (hle:=hle) (hLr:=hLr) (h:=h)
theorem EN{A:Prop}(h:A:=by first|((with_reducible apply aEn);kernel_rfl)|((with_reducible apply aOy);kernel_rfl;exact rfl)|((with_reducible apply aOx);kernel_rfl;exact rfl;exact rfl)|((with_reducible apply aOw);kernel_rfl;(iterate 3 exact rfl))|((with_reducible apply aOv);kernel_rfl;(iterate 4 exact rfl))|((with_reducible apply aOu);kernel_rfl;(iterate 5 exact rfl))|((with_reducible apply aLa);exact rfl;(assumption);exact rfl)):A:=h
theorem C1  {f:FuncId}{vs:Array Value}{v:Value}(hd:vJ X.n ops l o=some d)(hr:Ent P μ l L o f vs)(hc:∀w μc,MOk μc w→PQ μc μ L→CI P f vs w v)(h:G P X ops Q rest μ ((d,v)::l) L):
 G P X ops Q (o::rest) μ l L:=by
 obtain⟨h1,h2,h3⟩:=nF hd;exact RN (hd:=h1) (hn:=h2) (hw:=h3) (hr:=hr) (hc:=hc) (h:=h)
theorem K4{f:FuncId}{vs:Array Value}{v:Value}(hc:∀w μc,MOk μc w→MLe μ μc→CI P f vs w v)(h:G P X ops Q rest μ ((d,v)::l) L)(hd:vJ X.n ops l o=some d:=by exact rfl)(hr:Ent P μ l L o f vs:=by exact EN):G P X ops Q (o::rest) μ l L:=C1 hd hr (fun w μc hw a=>hc w μc hw a.le) h
theorem F1(f:FuncId){qs:Array Operand}{ts:Array TypeId}{vs:Array Value}{v:Value}(hd:vJ X.n ops l ⟨ds,.call { callee:=.value (.func f),args:=qs,argTypes:=ts },ty,pos,af,gd⟩=some d)(hr:Ent P μ l L ⟨ds,.call { callee:=.value (.func f),args:=qs,argTypes:=ts },ty,pos,af,gd⟩ f vs)(hc:∀w μc,MOk μc w→PQ μc μ L→CI P f vs w v)(h:G P X ops Q rest μ ((d,v)::l) L):
 G P X ops Q (⟨ds,.call { callee:=.value (.func f),args:=qs,argTypes:=ts },ty,pos,af,gd⟩::rest) μ l L:=by
 obtain⟨h1,h2,h3⟩:=nF hd;exact RN (hd:=h1) (hn:=h2) (hw:=h3) (hr:=hr) (hc:=hc) (h:=h)
theorem K2(f:FuncId){qs:Array Operand}{ts:Array TypeId}{vs:Array Value}{v:Value}(hc:∀w μc,MOk μc w→MLe μ μc→CI P f vs w v)(h:G P X ops Q rest μ ((d,v)::l) L)(hd:vJ X.n ops l ⟨ds,.call { callee:=.value (.func f),args:=qs,argTypes:=ts },ty,pos,af,gd⟩=some d:=by exact rfl)(hr:Ent P μ l L ⟨ds,.call { callee:=.value (.func f),args:=qs,argTypes:=ts },ty,pos,af,gd⟩ f vs:=by exact EN):G P X ops Q (⟨ds,.call { callee:=.value (.func f),args:=qs,argTypes:=ts },ty,pos,af,gd⟩::rest) μ l L:=F1 f hd hr (fun w μc hw a=>hc w μc hw a.le) h
theorem K3(f:FuncId){qs:Array Operand}{ts:Array TypeId}{vs:Array Value}{v:Value}(hc:∀w μc,MOk μc w→PQ μc μ L→CI P f vs w v)(h:G P X ops Q rest μ ((d,v)::l) L)(hd:vJ X.n ops l ⟨ds,.call { callee:=.value (.func f),args:=qs,argTypes:=ts },ty,pos,af,gd⟩=some d:=by exact rfl)(hr:Ent P μ l L ⟨ds,.call { callee:=.value (.func f),args:=qs,argTypes:=ts },ty,pos,af,gd⟩ f vs:=by exact EN):G P X ops Q (⟨ds,.call { callee:=.value (.func f),args:=qs,argTypes:=ts },ty,pos,af,gd⟩::rest) μ l L:=F1 f hd hr hc h
theorem C2  {f:FuncId}{vs:Array Value}{Post:Mem→Value→Prop}(hd:vJ X.n ops l o=some d)(hr:Ent P μ l L o f vs)(hc:∀w,MOk μ w→Calls P f vs w fun e w' =>∃v μ',e=.returned v∧vI w w' μ μ' ∧Post μ' v)(h:∀v μ',MLe μ μ' →Post μ' v→G P X ops Q rest μ' ((d,v)::l) L):
 G P X ops Q (o::rest) μ l L:=by
 obtain⟨h1,h2,h3⟩:=nF hd;exact bN (hd:=h1) (hn:=h2) (hw:=h3) (hr:=hr) (hc:=hc) (h:=h)
theorem F2(f:FuncId){qs:Array Operand}{ts:Array TypeId}{vs:Array Value}{Post:Mem→Value→Prop}(hd:vJ X.n ops l ⟨ds,.call { callee:=.value (.func f),args:=qs,argTypes:=ts },ty,pos,af,gd⟩=some d)(hr:Ent P μ l L ⟨ds,.call { callee:=.value (.func f),args:=qs,argTypes:=ts },ty,pos,af,gd⟩ f vs)(hc:∀w,MOk μ w→Calls P f vs w fun e w' =>∃v μ',e=.returned v∧vI w w' μ μ' ∧Post μ' v)(h:∀v μ',MLe μ μ' →Post μ' v→G P X ops Q rest μ' ((d,v)::l) L):
 G P X ops Q (⟨ds,.call { callee:=.value (.func f),args:=qs,argTypes:=ts },ty,pos,af,gd⟩::rest) μ l L:=by
 obtain⟨h1,h2,h3⟩:=nF hd;exact bN (hd:=h1) (hn:=h2) (hw:=h3) (hr:=hr) (hc:=hc) (h:=h)
theorem C3  {f:FuncId}{vs:Array Value}{e s n:Nat}{xs:List Value}(hd:vJ X.n ops l o=some d)(hr:Ent P μ l L o f vs)(hc:∀w μc,MOk μc w→PQ μc μ L→Calls P f vs w (sZ w e s n xs))(h:∀v,G P X ops Q rest μ ((d,v)::l) (.inr ⟨v,e,s,n,xs⟩::L)):
 G P X ops Q (o::rest) μ l L:=by
 obtain⟨h1,h2,h3⟩:=nF hd;exact JA (hd:=h1) (hn:=h2) (hw:=h3) (hr:=hr) (hc:=hc) (h:=h)
theorem F3(f:FuncId){qs:Array Operand}{ts:Array TypeId}{vs:Array Value}{e s n:Nat}{xs:List Value}(hd:vJ X.n ops l ⟨ds,.call { callee:=.value (.func f),args:=qs,argTypes:=ts },ty,pos,af,gd⟩=some d)(hr:Ent P μ l L ⟨ds,.call { callee:=.value (.func f),args:=qs,argTypes:=ts },ty,pos,af,gd⟩ f vs)(hc:∀w μc,MOk μc w→PQ μc μ L→Calls P f vs w (sZ w e s n xs))(h:∀v,G P X ops Q rest μ ((d,v)::l) (.inr ⟨v,e,s,n,xs⟩::L)):
 G P X ops Q (⟨ds,.call { callee:=.value (.func f),args:=qs,argTypes:=ts },ty,pos,af,gd⟩::rest) μ l L:=by
 obtain⟨h1,h2,h3⟩:=nF hd;exact JA (hd:=h1) (hn:=h2) (hw:=h3) (hr:=hr) (hc:=hc) (h:=h)
def kU(A B:Prop):Prop:=A→B
def aL4(_:Nat)(A B:Prop):Prop:=A→B
theorem WO{x y:Code}  :
 kU (GC P X x (Exit.then (y.wp P Q) Q) μ l L) (GC P X (.seq x y) Q μ l L):=fun h=>aR6 (h:=h)
theorem IJ{id:Nat}{ops:List Oper}  :
 kU (G P X ops.toArray Q ops μ l L) (GC P X (.region id ops.toArray false) Q μ l L):=fun h=>aGw (h:=h)
theorem aDh{ops:Array Oper}  :
 kU (GQ X Q .normal μ l L) (G P X ops Q [] μ l L):=fun h=>aUp (h:=h)
theorem QE{y:Code}  :
 kU (GC P X y Q μ l L) (GQ X (Exit.then (y.wp P Q) Q) .normal μ l L):=fun h=>aN3 (h:=h)
theorem LW{id:Nat}{c:Code}  :
 kU (GC P X c (Exit.inBlock id Q) μ l L) (GC P X (.block id c) Q μ l L):=fun h=>aJ6 (h:=h)
theorem QG{id:Nat}  :
 kU (GQ X Q (.exit id) μ l L) (GC P X (.exit id) Q μ l L):=fun h=>aN8 (h:=h)
theorem WQ   :
 kU (GQ X Q .ret μ l L) (GC P X .ret Q μ l L):=fun h=>aR7 (h:=h)
theorem QF   :
 kU (GQ X Q .normal μ l L) (GC P X .skip Q μ l L):=fun h=>aN7 (h:=h)
theorem zD{K:Act→World→Prop}{i:Nat}  :
 kU (GQ X Q (.exit i) μ l L) (GQ X (Exit.then K Q) (.exit i) μ l L):=fun h=>UG (h:=h)
theorem CN{K:Act→World→Prop}  :
 kU (GQ X Q .ret μ l L) (GQ X (Exit.then K Q) .ret μ l L):=fun h=>YV (h:=h)
theorem yP{i:Nat}  :
 kU (GQ X Q .normal μ l L) (GQ X (Exit.inBlock i Q) (.exit i) μ l L):=fun h=>PM (h:=h)
theorem vR{i:Nat}  :
 kU (GQ X Q .normal μ l L) (GQ X (Exit.inBlock i Q) .normal μ l L):=fun h=>JS (h:=h)
theorem zE{i:Nat}  :
 kU (GQ X Q .ret μ l L) (GQ X (Exit.inBlock i Q) .ret μ l L):=fun h=>UI (h:=h)
theorem aDe{p q:Prop}  :
 kU (p) (PIf true p q):=fun h=>aP0 (h:=h)
theorem aDf{p q:Prop}  :
 kU (q) (PIf false p q):=fun h=>aP1 (h:=h)
theorem QD{b:Bool}{p q:Prop}  :
 kU (PIf b q p) (PIf (!b) p q):=fun h=>aM0 (h:=h)
theorem aPu{v:Value}(h:XE P X.n ops l o=some (d,v)):
 kU (G P X ops Q rest μ ((d,v)::l) L) (G P X ops Q (o::rest) μ l L):=fun hg=>g_p (h:=h) (hg:=hg)
theorem aDg{c:Operand}{x y:Code}{b:Bool}(hc:ev l c=some (.bool b)):
 kU (PIf b (GC P X x Q μ l L) (GC P X y Q μ l L)) (GC P X (.cond c x y) Q μ l L):=fun h=>aUj (hc:=hc) (h:=h)
theorem LU{c p q:Prop}{_:Decidable c}(hc:c):
 kU (p) (PIf (decide c) p q):=fun h=>aIx (hc:=hc) (h:=h)
theorem LV{c p q:Prop}{_:Decidable c}(hc:¬c):
 kU (q) (PIf (decide c) p q):=fun h=>aIy (hc:=hc) (h:=h)
theorem WM{b:Bool}{p q:Prop}(hb:b=true):
 kU (p) (PIf b p q):=fun h=>aRj (hb:=hb) (h:=h)
theorem WN{b:Bool}{p q:Prop}(hb:b=false):
 kU (q) (PIf b p q):=fun h=>aRk (hb:=hb) (h:=h)
theorem aQz{r:Int}(h:aCz X.n ops l o=some (d,r))(hb: -9223372036854775808≤r∧r≤9223372036854775807):
 kU (G P X ops Q rest μ ((d,.int .i64 r)::l) L) (G P X ops Q (o::rest) μ l L):=fun hg=>aV2 (h:=h) (hb:=hb) (hg:=hg)
theorem aQw{t b off:Nat}{y:Blk}{v:Value}(hd:vJ X.n ops l o=some d)(h:aNg l o.op=some (t,b,off))(hb:InB L b y)(hv:ldv P t y.cs off=some v):
 kU (G P X ops Q rest μ ((d,v)::l) L) (G P X ops Q (o::rest) μ l L):=fun hg=>aVz (hd:=hd) (h:=h) (hb:=hb) (hv:=hv) (hg:=hg)
theorem aPt{v:Value}(hd:vJ X.n ops l o=some d)(hr:Val P μ l L o v):
 kU (G P X ops Q rest μ ((d,v)::l) L) (G P X ops Q (o::rest) μ l L):=fun h=>g_v (hd:=hd) (hr:=hr) (h:=h)
theorem aQu{b off:Nat}{vs:List Value}{L' :List Bk}(hd:aDp ops l o=true)(h:stop P l o.op=some (b,off,vs))(h1:VL vs)(hu:UpB L b off vs L'):
 kU (G P X ops Q rest μ l L') (G P X ops Q (o::rest) μ l L):=fun hg=>aUo (hd:=hd) (h:=h) (h1:=h1) (hu:=hu) (hg:=hg)
theorem HE{i j:Nat}(hij:Nat.beq j i=false):
 kU (GQ X Q (.exit j) μ l L) (GQ X (Exit.inBlock i Q) (.exit j) μ l L):=fun h=>NO (hij:=hij) (h:=h)
theorem aQx{t:Nat}{b:Bool}(h:RJ ops l o=some (t,b))(hb:PD b):
 kU (PIf b (G P X ops Q (o::rest) μ ((t,.bool true)::l) L) (G P X ops Q (o::rest) μ ((t,.bool false)::l) L)) (G P X ops Q (o::rest) μ l L):=fun hg=>aV0 (h:=h) (hb:=hb) (hg:=hg)
theorem aQv{t:TypeId}{cs:List Value}{n:Nat}(hd:vJ X.n ops l o=some d)(h:aM5 P l o.op=some (t,cs))(hn:CR cs.length some=some n):
 kU (∀b,G P X ops Q rest μ ((d,.pointer (some ⟨b,0,none⟩))::l) (.inl ⟨b,t,n,idx 0 cs⟩::L)) (G P X ops Q (o::rest) μ l L):=fun hg=>aVy (hd:=hd) (h:=h) (hn:=hn) (hg:=hg)
theorem aQy{t:TypeId}{cs:List Value}{n m:Nat}(hd:vJ X.n ops l o=some d)(h:aO3 P l o.op=some (t,m,cs))(hn:CR cs.length some=some n):
 kU (∀b,G P X ops Q rest μ ((d,.slice (some ⟨b,0,none⟩) m m)::l) (.inl ⟨b,t,n,idx 0 cs⟩::L)) (G P X ops Q (o::rest) μ l L):=fun hg=>aV1 (hd:=hd) (h:=h) (hn:=hn) (hg:=hg)
theorem aQ0{c p q:Prop}{_:Decidable c}:kU ((c→p)∧(¬c→q)) (PIf (decide c) p q):=fun h=>aM1 h.1 h.2
theorem aU6{b:Bool}{p q:Prop}:kU ((b=true→p)∧(b=false→q)) (PIf b p q):=fun h=>aTv h.1 h.2
theorem KO{A B:Prop}(h:A)
 (f:kU A B:=by first|((with_reducible (first|apply WO|apply IJ|apply aDh|apply QE|apply LW|apply QG|apply WQ|apply QF|apply zD|apply CN|apply yP|apply vR|apply zE|apply aDe|apply aDf|apply QD)))|((with_reducible apply aPu);exact rfl)|((with_reducible apply aDg);exact rfl)|((with_reducible apply LU);(omega))|((with_reducible apply LV);(first|omega|with_reducible exact QT _))|((with_reducible apply WM);exact rfl)|((with_reducible apply WN);exact rfl)):B:=f h
theorem KZ{A B:Prop}(h:A)
 (f:kU A B:=by first|((with_reducible (first|apply WO|apply IJ|apply aDh|apply QE|apply LW|apply QG|apply WQ|apply QF|apply zD|apply CN|apply yP|apply vR|apply zE|apply aDe|apply aDf|apply QD)))|((with_reducible apply aPu);exact rfl)|((with_reducible apply aDg);exact rfl)|((with_reducible apply LU);(omega))|((with_reducible apply LV);(first|omega|with_reducible exact QT _))|((with_reducible apply WM);exact rfl)|((with_reducible apply WN);exact rfl)|((with_reducible apply aQz);exact rfl;omega)|((with_reducible apply aQw);exact rfl;exact rfl;(repeat first|with_reducible exact fW|with_reducible apply pQ);exact rfl)|((with_reducible apply aPt);exact rfl;(((with_reducible apply aPm);exact rfl;exact rfl;(omega))))|((with_reducible apply aQu);exact rfl;exact rfl;(repeat first|with_reducible exact fZ|((with_reducible apply eW);(first|exact rfl|assumption)));(repeat first|with_reducible apply aH1|with_reducible apply aH0);exact rfl;(repeat first|with_reducible exact aBe|with_reducible apply TR))|((with_reducible apply aPt);exact rfl;(first|((with_reducible apply PX);exact rfl;exact rfl)|((with_reducible apply aE4);(iterate 4 exact rfl);omega)|((with_reducible apply aQi);exact rfl;exact rfl)|((with_reducible apply aHs);exact rfl;exact rfl)|((with_reducible apply aPm);exact rfl;exact rfl;(omega))|((with_reducible apply aHv);(iterate 3 exact rfl);kernel_rfl;kernel_rfl;kernel_rfl;kernel_rfl)|((with_reducible apply aE3 0);(iterate 3 exact rfl))))|((with_reducible apply HE);exact rfl)|((with_reducible apply aQx);exact rfl;(fail_if_success (with_reducible show PD true));(fail_if_success (with_reducible show PD false));exact aT3 _)):B:=f h
theorem KB{A B C:Prop}(h1:A)(h2:B)
 (f:kU (A∧B) C:=by with_reducible (first|exact aQ0|exact aU6)):C:=f ⟨h1,h2⟩
theorem NB{A:Nat→Prop}{B:Prop}(h:∀b,A b)
 (f:kU (∀b,A b) B:=by first|((with_reducible apply aQv);(iterate 3 exact rfl))|((with_reducible apply aQy);(iterate 3 exact rfl))):B:=f h
def aEz(_:Nat)(B:Prop):Prop:=B
theorem E1{i:Nat}{v:Value}(h:KF P X.n ops l i=some (d,v))(hk:yH ops listed i=true)(hQ:∀c a w,Q (.panic c) (Act.put a (some d) v) w→Q (.panic c) a w):
 aL4 i (GA P X μr Lr ops Q fuel (listed.setIfInBounds i true) μ ((d,v)::l) L) (GA P X μr Lr ops Q (fuel+1) listed μ l L):=fun hg=>aUm (i:=i) (h:=h) (hk:=hk) (hQ:=hQ) (hg:=hg)
theorem E2{i:Nat}{v:Value}(h:HO X.n ops l i=some (d,o))(hk:yH ops listed i=true)(hQ:∀c a w,Q (.panic c) (Act.put a (some d) v) w→Q (.panic c) a w)(hv:Val P μr l Lr o v):
 aL4 i (GA P X μr Lr ops Q fuel (listed.setIfInBounds i true) μ ((d,v)::l) L) (GA P X μr Lr ops Q (fuel+1) listed μ l L):=fun hg=>aUl (i:=i) (h:=h) (hk:=hk) (hQ:=hQ) (hv:=hv) (hg:=hg)
theorem DD(i:Nat){A B:Prop}(h:A)
 (f:aL4 i A B:=by first|((with_reducible apply E1);exact rfl;kernel_rfl;(exact fun _ _ _ h=>h))|((with_reducible apply E2);exact rfl;kernel_rfl;(exact fun _ _ _ h=>h);(first|((with_reducible apply PX);exact rfl;exact rfl)|((with_reducible apply yZ);exact rfl;(repeat first|with_reducible exact fW|with_reducible apply pQ);exact rfl)|((with_reducible apply VU);(iterate 3 exact rfl);kernel_rfl;kernel_rfl;kernel_rfl;kernel_rfl)|((with_reducible apply SN);exact rfl;omega)))):B:=f h
theorem X1{k:Nat}{p q:Operand}{t e:TypeId}{A:Addr}{len cap n:Nat}{i:Int}(ht:P.underlying t=some (.slice e))(hs:jN P e=some n)(hx0:ev l p=some (.slice (some A) len cap))(hx1:ev l q=some (.int .i64 i))(hi:i=(k:Int))(hk:k<len):
 aEz k (Val P μ l L ⟨ds,.indexAddr t p q,ty,pos,af,gd⟩ (.pointer (some (A.add (k*n))))):=aC6 (k:=k) (ht:=ht) (hs:=hs) (hx0:=hx0) (hx1:=hx1) (hi:=hi) (hk:=hk)
theorem X2{k:Nat}{p q:Operand}{t:TypeId}{s:ByteArray}{i:Int}(ht:P.underlying t=some .string)(hx0:ev l p=some (.string s))(hx1:ev l q=some (.int .i64 i))(hi:i=(k:Int))(hk:k<s.size):
 aEz k (Val P μ l L ⟨ds,.index t p q,ty,pos,af,gd⟩ (.int .u8 (bAt s k))):=aHp (k:=k) (ht:=ht) (hx0:=hx0) (hx1:=hx1) (hi:=hi) (hk:=hk)
theorem U1(k:Nat){B:Prop}(f:aEz k B:=by(with_reducible apply X1);(iterate 4 exact rfl);(first|exact rfl|omega);omega):B:=f
theorem U2(k:Nat){B:Prop}(f:aEz k B:=by(with_reducible apply X2);(iterate 3 exact rfl);(exact rfl);omega):B:=f
theorem U3{M B:Prop}(hm:M)(f:M→B:=by intro h;(with_reducible apply lF);exact rfl;exact rfl;exact h):B:=f hm
theorem U4{M B:Prop}(hm:M)(f:M→B:=by intro h;first|((with_reducible apply LF);(iterate 3 exact rfl);exact h;exact rfl)|((with_reducible apply SV);(iterate 3 exact rfl);exact h;exact rfl)):B:=f hm
theorem PU{l l' :bS}(h:wN l' l:=by((repeat first|exact gC|refine eS rfl ?_);done)):wN l' l:=h
theorem PS{L L' :List Bk}(h:Sel L' L:=by((repeat first|exact Sel.nil _|(refine fA ?_ ?_;focus(first|exact kZ.refl _|(refine kZ.cells ?_;repeat first|exact gC|refine eS rfl ?_)))|(refine eB ?_ ?_;focus(exact kZ.refl _))|(refine tB ?_ ?_;focus(exact kZ.refl _))|(refine aTp ?_ ?_;focus(exact kZ.refl _)));done)):Sel L' L:=h
theorem CF(f:FuncId){qs:Array Operand}{ts:Array TypeId}(h:G P X ops Q (⟨ds,.call { callee:=.value (.func f),args:=qs,argTypes:=ts },ty,pos,af,gd⟩::rest) μ l L):G P X ops Q (⟨ds,.call { callee:=.value (.func f),args:=qs,argTypes:=ts },ty,pos,af,gd⟩::rest) μ l L:=h
theorem DV{v:Value}
 (k:Nat)
 (h1:HO X.n ops l k=some (d,o):=by exact rfl)
 (h2:yH ops listed k=true:=by kernel_rfl)
 (h3:∀c a w,Q (.panic c) (Act.put a (some d) v) w→Q (.panic c) a w:=by exact fun _ _ _ h=>h)
 (b:Val P μr l Lr o v)
 (c:GA P X μr Lr ops Q fuel (listed.setIfInBounds k true) μ ((d,v)::l) L):
 GA P X μr Lr ops Q (fuel+1) listed μ l L:=aUl (i:=k) (h:=h1) (hk:=h2) (hQ:=h3) (hv:=b) (hg:=c)
theorem D2{v:Value}(k:Nat)(h1:HO X.n ops l k=some (d,o))(b:Val P μr l Lr o v)(c:GA P X μr Lr ops Q fuel (listed.setIfInBounds k true) μ ((d,v)::l) L)(h2:yH ops listed k=true:=by kernel_rfl)(h3:∀c a w,Q (.panic c) (Act.put a (some d) v) w→Q (.panic c) a w:=by exact fun _ _ _ h=>h):GA P X μr Lr ops Q (fuel+1) listed μ l L:=DV k h1 h2 h3 b c
theorem KV{v:Value}
 (hd:vJ X.n ops l o=some d:=by exact rfl)
 (b:Val P μ l L o v)
 (c:G P X ops Q rest μ ((d,v)::l) L):
 G P X ops Q (o::rest) μ l L:=g_v (hd:=hd) (hr:=b) (h:=c)
theorem K5{v:Value}(b:Val P μ l L o v)(c:G P X ops Q rest μ ((d,v)::l) L)(hd:vJ X.n ops l o=some d:=by exact rfl):G P X ops Q (o::rest) μ l L:=KV hd b c
end
end
end Go.Vcg
namespace Go.Proofs.YtlllalmkkaolfaaGreatDoor
end Go.Proofs.YtlllalmkkaolfaaGreatDoor
