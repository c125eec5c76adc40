/- Compact rules: one function tells what a plain operation yields; memory is found by its block. -/
import Derived.Test.YtknieidhopbngaaGreatQab
import Derived.MapKept
set_option maxRecDepth 20000
set_option maxHeartbeats 2000000
namespace Go.Vcg
open Go.RowKit
section
variable{P:Program}{X:Ctx}{ops:Array Oper}{Q:Exit→Act→World→Prop}{rest:List Oper}{μ μr:Mem}{l:bG}{L Lr:List Bk}{a:Act}{w:World}{o:Oper}{d fuel i:Nat}{listed:Array Bool}
variable{ty:TypeId}{pos:String}{af:Array Edge}{gd:Option (Nat×Bool)}{ds:Option Nat}
def lks(cs:bG):Nat→Nat→Option (List Value)
 |_,0=>some []
 | off,n+1=>match lk cs off with
   | some v=>match lks cs (off+1) n with
     |some vs=>some (v::vs)
     |none=>none
   |none=>none
theorem EC{cs:bG}:∀{n off:Nat} {vs:List Value},lks cs off n=some vs→LC cs off n vs
 |0,off,vs,h=>by simp[lks]at h;subst h;exact bH
 | n +1,off,vs,h=>by
   unfold lks at h;cases e:lk cs off with
   |none=>simp[e]at h
   | some v=>
     cases e' :lks cs (off+1) n with
     |none=>simp[e,e']at h
     |some r=>simp[e,e']at h;subst h;exact bA e (EC e')
def aFs(op:BinOp)(x y:Int):Option Value:=match op with
 |.eql=>some (.bool (decide (x=y)))
 |.neq=>some (.bool (decide (x≠y)))
 |.lss=>some (.bool (decide (x<y)))
 |.leq=>some (.bool (decide (x≤y)))
 |.gtr=>some (.bool (decide (y<x)))
 |.geq=>some (.bool (decide (y≤x)))
 |_=>none
def aFr(op:BinOp)(x y:ByteArray):Option Value:=match op with
 |.eql=>some (.bool (decide (x=y)))
 |.neq=>some (.bool (decide (x≠y)))
 |_=>none
def aFt(op:BinOp)(x y:Bool):Option Value:=match op with
 |.eql=>some (.bool (decide (x=y)))
 |.neq=>some (.bool (decide (x≠y)))
 |_=>none
def JK(P:Program)(t:TypeId):Bool:=match P.underlying t with|some .bool=>true|_=>false
def QN(P : Program)(l:bG)(t:TypeId)(ps:List (Nat×Operand)):Option Value:=
 match gW P t with
 | some s => match qR P t with
   | some z=>match Nat.beq (oD z).length s with
     | true=>match CK P t with
       | some pl=>match uD l ps with
         | some us=>match wR pl s us with
           | true=>match lks (yF pl us (idx 0 (oD z))) 0 s with
             |some vs=>some (.agg vs.toArray)
             |none=>none
           |false=>none
         |none=>none
       |none=>none
     |false=>none
   |none=>none
 |none=>none
def aE9(P:Program)(l:bG):List Operand→List TypeId→Option Value
 | [p],[t]=>match ev l p,P.underlying t with
   |some (.string s),some .string=>some (.int .i64 s.size)
   |some (.slice _ n _),some (.slice _)=>some (.int .i64 n)
   |_,_=>none
 |_,_=>none
def evs(l:bG):List Operand→Option (List Value)
 |[]=>some []
 | x ::r=>match ev l x with
   | some v=>match evs l r with
     |some vs=>some (v::vs)
     |none=>none
   |none=>none
theorem MW(h:Rd μ l L a w):∀{xs:List Operand} {vs:List Value},evs l xs=some vs→xs.map a.eval=vs
 |[],vs,e=>by simp[evs]at e;simp[e]
 | x ::r,vs,e=>by
   unfold evs at e;cases b:ev l x with
   |none=>simp[b]at e
   | some v=>
     cases hr:evs l r with
     |none=>simp[b,hr]at e
     | some us=>
       simp[b,hr]at e;subst e;simp[h.eval b,MW h hr]
def pv(P:Program)(l:bG):Op→Option Value
 |.move x=>ev l x
 |.assign x=>ev l x
 | .pick c x y=>match ev l c with
   |some (.bool true)=>ev l x
   |some (.bool false)=>ev l y
   |_=>none
 | .fieldAddr t p i=>match ev l p with
   | some (.pointer (some ⟨b,k,none⟩))=>match EX P t i with
     |some (_,off)=>vJ k fun k=>some (.pointer (some ⟨b,k+off,none⟩))
     |none=>none
   |_=>none
 | .binOp op t p q _=>match ev l p,ev l q with
   | some (.int k x),some (.int k' y)=>match decide (k=k')with
     |true=>aFs op x y
     |false=>none
   |some (.string x),some (.string y)=>aFr op x y
   | some (.bool x),some (.bool y)=>match JK P t with
     |true=>aFt op x y
     |false=>none
   |_,_=>none
 | .unOp .not _ p=>match ev l p with
   |some (.bool b)=>some (.bool (!b))
   |_=>none
 | .extract p i=>match ev l p with
   |some (.tuple vs)=>JG vs.toList i
   |_=>none
 | .nilCheck p=>match ev l p with
   |some (.pointer (some A))=>some (.pointer (some A))
   |_=>none
 |.call ⟨.builtin .len,args,ts⟩=>aE9 P l args.toList ts.toList
 |.build t ps=>QN P l t ps.toList
 | .makeFunc fn ⟨[]⟩ caps=>match evs l caps.toList with
   |some vs=>some (.func fn #[] vs.toArray)
   |none=>none
 |_=>none
theorem QI{op:BinOp}{p q:Operand}{t t2:TypeId}{k:IntKind}{x y:Int}{v:Value}(hp:ev l p=some (.int k x))(a:ev l q=some (.int k y))(h:aFs op x y=some v):Val P μ l L ⟨ds,.binOp op t p q t2,ty,pos,af,gd⟩ v:=by
 cases op<;>simp only[aFs,aR,reduceCtorEq]at h<;>subst h
 ·exact aGb hp a
 ·exact aF5 hp a
 ·exact aF7 hp a
 ·exact aF8 hp a
 ·exact aF9 hp a
 ·exact aGa hp a
theorem QH{op:BinOp}{p q:Operand}{t t2:TypeId}{x y:ByteArray}{v:Value}(hp:ev l p=some (.string x))(a:ev l q=some (.string y))(h:aFr op x y=some v):Val P μ l L ⟨ds,.binOp op t p q t2,ty,pos,af,gd⟩ v:=by
 cases op<;>simp only[aFr,aR,reduceCtorEq]at h<;>subst h
 ·exact aD1 hp a
 ·exact aD0 hp a
theorem QJ{op:BinOp}{p q:Operand}{t t2:TypeId}{x y:Bool}{v:Value}(ht:JK P t=true)(hp:ev l p=some (.bool x))(a:ev l q=some (.bool y))(h:aFt op x y=some v):Val P μ l L ⟨ds,.binOp op t p q t2,ty,pos,af,gd⟩ v:=by
 have hu:P.underlying t=some .bool:=by
  unfold JK at ht;split at ht
  ·assumption
  ·cases ht
 cases op<;>simp only[aFt,aR,reduceCtorEq]at h<;>subst h
 ·exact aD4 hu hp a
 ·exact aD3 hu hp a
theorem JW{t:TypeId}{ps:Array (Nat×Operand)}{v:Value}(h:QN P l t ps.toList=some v):Val P μ l L ⟨ds,.build t ps,ty,pos,af,gd⟩ v:=by
 unfold QN at h;repeat' split at h
 all_goals first|(simp only[reduceCtorEq]at h;done)|skip
 rename_i _ s hs _ z g _ hb _ pl c _ us b _ d _ vs a;simp only[aR]at h;subst h;have e:ps=ps.toList.toArray:=by simp
 rw[e];exact aA3 hs g (cC hb) c b d (EC a)
theorem PK{args:Array Operand}{ts:Array TypeId}{v:Value}(h:aE9 P l args.toList ts.toList=some v):Val P μ l L ⟨ds,.call ⟨.builtin .len,args,ts⟩,ty,pos,af,gd⟩ v:=by
 unfold aE9 at h;split at h
 ·rename_i p t ha ht;have e:args= #[p]:=by rw[←Array.toArray_toList (xs:=args),ha]
  have e' :ts= #[t]:=by rw[←Array.toArray_toList (xs:=ts),ht]
  subst e e';split at h
  ·rename_i s hp hu;simp only[aR]at h;subst h;exact aAz hp hu
  ·rename_i A n c e hp hu;simp only[aR]at h;subst h;exact aA0 hp hu
  ·cases h
 ·cases h
theorem EB{fn:Fn}{caps:Array Operand}{vs:List Value}(h:evs l caps.toList=some vs):Val P μ l L ⟨ds,.makeFunc fn #[] caps,ty,pos,af,gd⟩ (.func fn #[] vs.toArray):=fun a w hs=>by
 have e:=MW hs h;have:caps.map a.eval=vs.toArray:=by cases caps;simpa using e
 simp[execOp,Instr.makeFunc,this]
theorem LP{op:Op}{v:Value}(h:pv P l op=some v):Val P μ l L ⟨ds,op,ty,pos,af,gd⟩ v:=by
 unfold pv at h;split at h
 ·exact aD2 h
 ·exact WU h
 ·split at h
  ·rename_i hc;exact WO hc h
  ·rename_i hc;exact WQ hc h
  ·cases h
 ·split at h
  ·rename_i b k hp;split at h
   ·rename_i x off hf;rw[sW]at h;simp only[aR]at h;subst h;exact KK hp hf
   ·cases h
  ·cases h
 ·split at h
  ·rename_i k x k' y hp a;split at h
   ·rename_i hk;have:=of_decide_eq_true hk;subst this;exact QI hp a h
   ·cases h
  ·rename_i x y hp a;exact QH hp a h
  ·rename_i x y hp a;split at h
   ·rename_i ht;exact QJ ht hp a h
   ·cases h
  ·cases h
 ·split at h
  ·rename_i b hp;simp only[aR]at h;subst h;exact aF4 hp
  ·cases h
 ·split at h
  ·rename_i vs hp;have e:vs=vs.toList.toArray:=by simp
   rw[e]at hp;exact UF hp h
  ·cases h
 ·split at h
  ·rename_i A hp;simp only[aR]at h;subst h;exact NT hp
  ·cases h
 ·exact PK h
 ·exact JW h
 ·split at h
  ·rename_i vs hv;simp only[aR]at h;subst h;exact EB hv
  ·cases h
 ·cases h
def LR(P:Program)(n:Nat)(ops:Array Oper)(l:bG)(o:Oper):Option (Nat×Value):=match o.dst with
 | some d=>match Nat.blt d n with
   | true=>match dW ops l o with
     | some true=>match pv P l o.op with
       |some v=>some (d,v)
       |none=>none
     |some false=>some (d,undef)
     |none=>none
   |false=>none
 |none=>none
theorem g_p{v:Value}(h:LR P X.n ops l o=some (d,v))(hg:G P X ops Q rest μ ((d,v)::l) L):G P X ops Q (o::rest) μ l L:=by
 unfold LR at h;split at h
 ·rename_i d' hd;split at h
  ·rename_i hn;split at h
   ·rename_i hw;split at h
    ·rename_i v' hv;simp only[aR,cD]at h;obtain⟨rfl,rfl⟩:=h;cases o;exact SY hd hn hw (LP hv) hg
    ·cases h
   ·rename_i hw;simp only[aR,cD]at h;obtain⟨rfl,rfl⟩:=h;exact aFi hd hn hw hg
   ·cases h
  ·cases h
 ·cases h
def arI(l:bG)(op:Op):Option Int:=match op with
 | .binOp op _ p q _=>match ev l p,ev l q with
   | some (.int .i64 x),some (.int .i64 y)=>match op with
     |.add=>some (x+y)
     |.sub=>some (x-y)
     |.mul=>some (x*y)
     |_=>none
   |_,_=>none
 |_=>none
theorem IG{op:Op}{r:Int}(h:arI l op=some r)(hb: -9223372036854775808≤r∧r≤9223372036854775807):Val P μ l L ⟨ds,op,ty,pos,af,gd⟩ (.int .i64 r):=by
 unfold arI at h;split at h
 ·split at h
  ·rename_i x y hp a;split at h
   ·simp only[aR]at h;subst h;exact aA4 hp a hb
   ·simp only[aR]at h;subst h;exact aAw hp a hb
   ·simp only[aR]at h;subst h;exact aAy hp a hb
   ·cases h
  ·cases h
 ·cases h
def QS(n:Nat)(ops:Array Oper)(l:bG)(o:Oper):Option (Nat×Int):=match o.dst with
 | some d=>match Nat.blt d n with
   | true=>match dW ops l o with
     | some true=>match arI l o.op with
       |some v=>some (d,v)
       |none=>none
     |_=>none
   |false=>none
 |none=>none
theorem ZS{r:Int}(h:QS X.n ops l o=some (d,r))(hb: -9223372036854775808≤r∧r≤9223372036854775807)(hg:G P X ops Q rest μ ((d,.int .i64 r)::l) L):G P X ops Q (o::rest) μ l L:=by
 unfold QS at h;split at h
 ·rename_i d' hd;split at h
  ·rename_i hn;split at h
   ·rename_i hw;split at h
    ·rename_i v' hv;simp only[aR,cD]at h;obtain⟨rfl,rfl⟩:=h;cases o;exact SY hd hn hw (IG hv hb) hg
    ·cases h
   ·cases h
  ·cases h
 ·cases h
def InB(L:List Bk)(b:Nat)(y:Blk):Prop:=∃i,jO L i=some (.inl y)∧y.b=b
theorem bT{b t sz:Nat}{cs:bG}{L:List Bk}:InB (.inl ⟨b,t,sz,cs⟩::L) b ⟨b,t,sz,cs⟩:=⟨0,rfl,rfl⟩
theorem cG{b:Nat}{y:Blk}{x:Bk}{L:List Bk}(h:InB L b y):InB (x::L) b y:=by
 obtain⟨i,h1,h2⟩:=h;exact⟨i+1,h1,h2⟩
def ldv(P:Program)(t:TypeId)(cs:bG)(off:Nat):Option Value:=match pM P t with
 |some false=>lk cs off
 | some true=>match gW P t with
   | some s=>match lks cs off s with
     |some vs=>some (.agg vs.toArray)
     |none=>none
   |none=>none
 |none=>none
def sC(n:Nat)(ops:Array Oper)(l:bG)(o:Oper):Option Nat:=match o.dst with
 | some d=>match Nat.blt d n with
   | true=>match dW ops l o with
     |some true=>some d
     |_=>none
   |false=>none
 |none=>none
theorem lT{n:Nat}(h:sC n ops l o=some d):o.dst=some d∧Nat.blt d n=true∧dW ops l o=some true:=by
 unfold sC at h;split at h
 ·rename_i d' hd;split at h
  ·rename_i hn;split at h
   ·rename_i hw;simp only[aR]at h;subst h;exact⟨hd,hn,hw⟩
   ·cases h
  ·cases h
 ·cases h
def aB2(l:bG):Op→Option (TypeId×Nat×Nat)
 | .load t x=>match ev l x with
   |some (.pointer (some ⟨b,off,none⟩))=>some (t,b,off)
   |_=>none
 |_=>none
theorem gT{op:Op}{t b off:Nat}{y:Blk}{v:Value}(h:aB2 l op=some (t,b,off))(hb:InB L b y)(hv:ldv P t y.cs off=some v):Val P μ l L ⟨ds,op,ty,pos,af,gd⟩ v:=by
 unfold aB2 at h;split at h
 ·split at h
  ·rename_i t' x _ b' off' c;simp only[aR,cD]at h;obtain⟨rfl,rfl,rfl⟩:=h;obtain⟨i,hi,rfl⟩:=hb;unfold ldv at hv;split at hv
   ·rename_i ha;exact NV i ha hi c hv
   ·rename_i ha;split at hv
    ·rename_i s hs;split at hv
     ·rename_i vs a;simp only[aR]at hv;subst hv;exact NW i ha hs hi c (EC a)
     ·cases hv
    ·cases hv
   ·cases hv
  ·cases h
 ·cases h
theorem EU{t b off:Nat}{y:Blk}{v:Value}(hd:sC X.n ops l o=some d)(h:aB2 l o.op=some (t,b,off))(hb:InB L b y)(hv:ldv P t y.cs off=some v)(hg:G P X ops Q rest μ ((d,v)::l) L):G P X ops Q (o::rest) μ l L:=by
 obtain⟨h1,h2,h3⟩:=lT hd;cases o;exact SY h1 h2 h3 (gT h hb hv) hg
def yC:List Value→Option (List Value)
 |[]=>some []
 | v::r=>match yC r with
   |some r' =>some (v::r')
   |none=>none
theorem wY:∀{vs us:List Value},yC vs=some us→us=vs
 |[],us,h=>by unfold yC at h;cases h;rfl
 | v::r,us,h=>by
   unfold yC at h;split at h
   ·rename_i r' hr;simp only[aR]at h;subst h;rw[wY hr]
   ·cases h
def KE(vs:List Value):Prop:=vs.all (·.oneCell')=true
theorem eG:KE []:=rfl
theorem dO{v:Value}{vs:List Value}(h:v.oneCell' =true)(hr:KE vs):KE (v::vs):=by
 unfold KE at*;rw[kQ,h,hr];rfl
def stop(P :Program)(l:bG)(op:Op):Option (Nat×Nat×List Value):=match op with
 | .store t q x=>match gW P t with
   | some s=>match ev l q with
     | some (.pointer (some ⟨b,off,none⟩))=>match ev l x with
       | some v=>match yC (oD v)with
         | some vs=>match Nat.beq vs.length s with
           |true=>some (b,off,vs)
           |false=>none
         |none=>none
       |none=>none
     |_=>none
   |none=>none
 |_=>none
def SH(ops:Array Oper)(l:bG)(o:Oper):Bool:=match o.dst with
 | none=>match dW ops l o with
   |some true=>true
   |_=>false
 |some _=>false
def UpB(L:List Bk)(b off:Nat)(vs:List Value)(L' :List Bk):Prop:=∃i y,jO L i=some (.inl y)∧y.b=b∧Nat.ble (off+vs.length) y.sz=true∧L' =nQ L i (.inl ⟨y.b,y.t,y.sz,wO off vs y.cs⟩)
theorem pO{b t sz off:Nat}{cs cs' :bG}{vs:List Value}{L:List Bk}(a:Nat.ble (off+vs.length) sz=true)(c:PC off vs cs cs'):UpB (.inl ⟨b,t,sz,cs⟩::L) b off vs (.inl ⟨b,t,sz,cs'⟩::L):=by
 rw[c.eq];exact⟨0,⟨b,t,sz,cs⟩,rfl,rfl,a,rfl⟩
theorem tK{b off:Nat}{vs:List Value}{x:Bk}{L L' :List Bk}(h:UpB L b off vs L'):UpB (x::L) b off vs (x::L'):=by
 obtain⟨i,y,h1,h2,h3,rfl⟩:=h;exact⟨i+1,y,h1,h2,h3,rfl⟩
theorem BV{b off:Nat}{vs:List Value}{L' :List Bk}(hd:SH ops l o=true)(h:stop P l o.op=some (b,off,vs))(h1:KE vs)(hu:UpB L b off vs L')(hg:G P X ops Q rest μ l L'):G P X ops Q (o::rest) μ l L:=by
 obtain⟨ds,op,ty,pos,af,gd⟩:=o;unfold SH at hd;split at hd
 ·rename_i c;split at hd
  ·rename_i hw;simp only at c;subst c;unfold stop at h;simp only at h;split at h
   ·split at h
    ·rename_i t q x s hs;split at h
     ·rename_i b' off' g;split at h
      ·rename_i v d;split at h
       ·rename_i vs' hf;split at h
        ·rename_i hlen;simp only[aR,cD]at h;obtain⟨rfl,rfl,rfl⟩:=h;have hc:=wY hf;rw[mQ]at hc;obtain⟨i,y,hi,rfl,a,rfl⟩:=hu;have hl:=cC hlen;refine CS (n:=s) i hw hs hi g d (by rw[←hc];exact hl) (by rw[←hc];exact h1) (by rw[←hl];exact a) ?_;rw[←hc];exact hg
        ·cases h
       ·cases h
      ·cases h
     ·cases h
    ·cases h
   ·cases h
  ·cases hd
 ·cases hd
def aBx(P:Program)(l:bG):Op→Option (TypeId×List Value)
 | .box t x=>match ev l x with
   | some v=>match yC (oD v)with
     |some vs=>some (t,vs)
     |none=>none
   |none=>none
 | .alloc t=>match qR P t with
   | some z=>match yC (oD z)with
     |some vs=>some (t,vs)
     |none=>none
   |none=>none
 |_=>none
theorem aH0{op:Op}{t:TypeId}{cs:List Value}(h:aBx P l op=some (t,cs)):Alc P μ l L ⟨ds,op,ty,pos,af,gd⟩ (fun b=>.pointer (some ⟨b,0,none⟩)) t cs:=by
 unfold aBx at h;split at h
 ·split at h
  ·rename_i t' x _ v a;split at h
   ·rename_i vs hf;simp only[aR,cD]at h;obtain⟨rfl,rfl⟩:=h;rw[wY hf,mQ];exact VH a
   ·cases h
  ·cases h
 ·split at h
  ·rename_i t' _ v a;split at h
   ·rename_i vs hf;simp only[aR,cD]at h;obtain⟨rfl,rfl⟩:=h;rw[wY hf,mQ];exact MC a
   ·cases h
  ·cases h
 ·cases h
theorem GL{t:TypeId}{cs:List Value}{n:Nat}(hd:sC X.n ops l o=some d)(h:aBx P l o.op=some (t,cs))(hn:vJ cs.length some=some n)(hg:∀b,G P X ops Q rest μ ((d,.pointer (some ⟨b,0,none⟩))::l) (.inl ⟨b,t,n,idx 0 cs⟩::L)):G P X ops Q (o::rest) μ l L:=by
 obtain⟨h1,h2,h3⟩:=lT hd;cases o;exact aDr h1 h2 h3 (aH0 h) hn hg
def aAm:List Value→List Value→Option (List Value)
 |[],r=>some r
 | u::us,r=>match aAm us r with
   |some c=>some (u::c)
   |none=>none
theorem TY:∀{us r c:List Value},aAm us r=some c→c=us++r
 |[],r,c,h=>by unfold aAm at h;cases h;rfl
 | u::us,r,c,h=>by
   unfold aAm at h;split at h
   ·rename_i c' hc;simp only[aR]at h;subst h;rw[TY hc];rfl
   ·cases h
def bsl(l:bG)(s:Nat):Nat→List (Nat×Operand)→Option (List Value)
 |_,[]=>some []
 | i, (j,x)::ps=>match Nat.beq j i with
   | true=>match ev l x with
     | some v=>match Nat.beq (oD v).length s with
       | true=>match bsl l s (i+1) ps with
         |some r=>aAm (oD v) r
         |none=>none
       |false=>none
     |none=>none
   |false=>none
theorem aAh{s:Nat}:∀{ps:List (Nat×Operand)} {i:Nat} {cs:List Value},bsl l s i ps=some cs→∃vs,BP l s i ps vs cs
 |[],i,cs,h=>by simp[bsl]at h;subst h;exact⟨[],aFy⟩
 | (j, x)::ps,i,cs,h=>by
   unfold bsl at h;split at h
   ·rename_i c;split at h
    ·rename_i v b;split at h
     ·rename_i hl;split at h
      ·rename_i r hr;obtain⟨vs,hb⟩:=aAh hr;have hc:=TY h;have a:=cC hl;rw[mQ]at hc a;exact⟨v::vs,cC c,b,by simpa using a,r,hc,hb⟩
      ·cases h
     ·cases h
    ·cases h
   ·cases h
def aC1(P:Program)(l:bG):Op→Option (TypeId×Nat×List Value)
 | .buildSlice t n ps=>match P.underlying t with
   | some (.slice e)=>match gW P e with
     | some s=>match qR P e with
       | some _=>match Nat.beq ps.toList.length n with
         | true=>match Nat.ble (n*s) 16777216 with
           | true=>match bsl l s 0 ps.toList with
             |some cs=>some (e,n,cs)
             |none=>none
           |false=>none
         |false=>none
       |none=>none
     |none=>none
   |_=>none
 |_=>none
theorem aH1{op:Op}{t:TypeId}{n:Nat}{cs:List Value}(h:aC1 P l op=some (t,n,cs)):Alc P μ l L ⟨ds,op,ty,pos,af,gd⟩ (fun b=>.slice (some ⟨b,0,none⟩) n n) t cs:=by
 unfold aC1 at h;split at h
 ·rename_i t' n' ps;split at h
  ·rename_i e he;split at h
   ·rename_i s hs;split at h
    ·rename_i z c;split at h
     ·rename_i hn;split at h
      ·rename_i hb;split at h
       ·rename_i cs' hc;simp only[aR,cD]at h;obtain⟨rfl,rfl,rfl⟩:=h;obtain⟨vs,a⟩:=aAh hc;have e:ps=ps.toList.toArray:=by simp
        rw[e];exact JH he hs c (cC hn) hb a
       ·cases h
      ·cases h
     ·cases h
    ·cases h
   ·cases h
  ·cases h
 ·cases h
theorem aFl{t:TypeId}{cs:List Value}{n m:Nat}(hd:sC X.n ops l o=some d)(h:aC1 P l o.op=some (t,m,cs))(hn:vJ cs.length some=some n)(hg:∀b,G P X ops Q rest μ ((d,.slice (some ⟨b,0,none⟩) m m)::l) (.inl ⟨b,t,n,idx 0 cs⟩::L)):G P X ops Q (o::rest) μ l L:=by
 obtain⟨h1,h2,h3⟩:=lT hd;cases o;exact aDr h1 h2 h3 (aH1 h) hn hg
theorem aA1{op:Op}{x:Operand}{t j:Nat}{A:Addr}{vs:List Value}{v:Value}(h:op=.load t x)(a:pM P t=some false)(b:ev l x=some (.pointer (some (A.add j))))(hm:iK μ A vs)(hv:JG vs j=some v):Val P μ l L ⟨ds,op,ty,pos,af,gd⟩ v:=by
 subst h;rw[CO]at hv;exact qJ a b (hm j v hv)
theorem GO{p:Operand}{t:TypeId}{i ft off:Nat}{A:Addr}(hx0:ev l p=some (.pointer (some A)))(hf:EX P t i=some (ft,off)):Val P μ l L ⟨ds,.fieldAddr t p i,ty,pos,af,gd⟩ (.pointer (some (A.add off))):=fun a w hs=>by
 have e0:=hs.eval hx0;simp[execOp,e0,AW hf]
def UA(L:List Bk)(r:Rw)(F:Rw→List Bk):Prop:=∃i,jO L i=some (.inr r)∧∀r',F r' =nQ L i (.inr r')
theorem eO{v:Value}{e s n:Nat}{xs:List Value}{L:List Bk}:UA (.inr ⟨v,e,s,n,xs⟩::L) ⟨v,e,s,n,xs⟩ (fun r=>.inr r::L):=⟨0,rfl,fun _=>rfl⟩
theorem gX{x:Bk}{L:List Bk}{r:Rw}{F:Rw→List Bk}(h:UA L r F):UA (x::L) r (fun r=>x::F r):=by
 obtain⟨i,h1,h2⟩:=h;exact⟨i+1,h1,fun r' =>by show x::F r' =x::nQ L i (.inr r');rw[h2]⟩
theorem lV{q:Operand}{y:Blk}{b m c:Nat}{news:List Value}(a:ev l q=some (.slice (some ⟨b,0,none⟩) m c))(hb:InB L b y)(hl:lks y.cs 0 y.sz=some news):Src μ l L q m news:=by
 obtain⟨i,hi,rfl⟩:=hb;exact aA7 i hi a (EC hl)
theorem pJ{p q:Operand}{t e:TypeId}{s bytes m n:Nat}{z v:Value}{news xs:List Value}{F:Rw→List Bk}(hn:Nat.blt d X.n=true)(hw:dW ops l ⟨some d,.call { callee:=.builtin .append,args:= #[p,q],argTypes:= #[t,t] },ty,pos,af,gd⟩=some true)
 (hp:ev l p=some v)(hr:UA L ⟨v,e,s,n,xs⟩ F)(ht:P.underlying t=some (.slice e))(hs:gW P e=some s)(k:qR P e=some z)(g:z.cells.toList.length=s)(j:FJ P e=some bytes)(c:Nat.blt 0 s=true)
 (b:Src μ l L q m news)(hl:news.length=m*s)(h1:∀u∈news,u.oneCell' =true)(a:(n+m)*bytes≤140737488355328)(hlen:n+m≤140737488355328)
 (h:∀v,G P X ops Q rest μ ((d,v)::l) (F ⟨v,e,s,n+m,xs++news⟩)):
 G P X ops Q (⟨some d,.call { callee:=.builtin .append,args:= #[p,q],argTypes:= #[t,t] },ty,pos,af,gd⟩::rest) μ l L:=by
 obtain⟨i,hi,o⟩:=hr;refine MR (r:=⟨v,e,s,n,xs⟩) i hn hw hi ht hs rfl k g j c hp b hl h1 a hlen (fun v=>?_);rw[←o];exact h v
theorem jI{vs:List Value}(h:KE vs):∀u∈vs,u.oneCell' =true:=by
 unfold KE at h;simpa only[fY]using h
def PIf(b:Bool)(p q:Prop):Prop:=(b=true→p)∧(b=false→q)
theorem YE{p q:Prop}(h:p):PIf true p q:=⟨fun _=>h,fun h=>by cases h⟩
theorem HJ{p q:Prop}(h:q):PIf false p q:=⟨fun h=>by(cases h),fun _=>h⟩
theorem aEx{b:Bool}{p q:Prop}(hb:b=true)(h:p):PIf b p q:=by subst hb;exact YE h
theorem aEy{b:Bool}{p q:Prop}(hb:b=false)(h:q):PIf b p q:=by subst hb;exact HJ h
theorem aBq{b:Bool}{p q:Prop}(h:PIf b q p):PIf (!b) p q:=by
 cases b
 ·exact⟨fun _=>h.2 rfl,fun h=>by cases h⟩
 ·exact⟨fun h=>by(cases h),fun _=>h.1 rfl⟩
theorem rA{c p q:Prop}{_:Decidable c}(hc:c)(h:p):PIf (decide c) p q:=⟨fun _=>h,fun e=>absurd hc (of_decide_eq_false e)⟩
theorem pF{c p q:Prop}{_:Decidable c}(hc:¬c)(h:q):PIf (decide c) p q:=⟨fun e=>absurd (of_decide_eq_true e) hc,fun _=>h⟩
theorem VG{α:Type}(a:α):¬(a≠a):=fun h=>h rfl
theorem CM{c p q:Prop}{_:Decidable c}(h:c→p)(a:¬c→q):PIf (decide c) p q:=⟨fun e=>h (of_decide_eq_true e),fun e=>a (of_decide_eq_false e)⟩
theorem aDl{b:Bool}{p q:Prop}(h:b=true→p)(a:b=false→q):PIf b p q:=⟨h,a⟩
theorem vS{c:Operand}{x y:Code}{b:Bool}(hc:ev l c=some (.bool b))(h:PIf b (GC P X x Q μ l L) (GC P X y Q μ l L)):GC P X (.cond c x y) Q μ l L:=JR hc h.1 h.2
def HW(ops:Array Oper)(l:bG)(o:Oper):Option (Nat×Bool):=match wW ops o with
 | some t=>match lk l t with
   |some (.bool b)=>some (t,b)
   |_=>none
 |none=>none
theorem tX{t:Nat}{b:Bool}(h:HW ops l o=some (t,b)):wW ops o=some t∧lk l t=some (.bool b):=by
 unfold HW at h;split at h
 ·rename_i t' ht;split at h
  ·rename_i b' hb;simp only[aR,cD]at h;obtain⟨rfl,rfl⟩:=h;exact⟨ht,hb⟩
  ·cases h
 ·cases h
theorem ZP{t:Nat}{b:Bool}(h:HW ops l o=some (t,b))(hb:uL b)(hg:PIf b (G P X ops Q (o::rest) μ ((t,.bool true)::l) L) (G P X ops Q (o::rest) μ ((t,.bool false)::l) L)):G P X ops Q (o::rest) μ l L:=
 aCj (tX h).1 (tX h).2 hb hg.1 hg.2
theorem g_v{v:Value}(hd:sC X.n ops l o=some d)(hr:Val P μ l L o v)(h:G P X ops Q rest μ ((d,v)::l) L):G P X ops Q (o::rest) μ l L:=by
 obtain⟨h1,h2,h3⟩:=lT hd;exact SY h1 h2 h3 hr h
def uH(ops:Array Oper)(listed:Array Bool)(i:Nat):Bool:=Region.noSelect ops&&Region.free .any ops listed i&&(Region.ready .any ops listed).contains i
theorem BH(h:uH ops listed i=true):Region.noSelect ops=true∧Region.free .any ops listed i=true∧(Region.ready .any ops listed).contains i=true:=by
 unfold uH at h;simp only[aM]at h;exact⟨h.1.1,h.1.2,h.2⟩
def CJ(P:Program)(n:Nat)(ops:Array Oper)(l:bG)(i:Nat):Option (Nat×Value):=match sD ops.toList i with
 |some o=>LR P n ops l o
 |none=>none
theorem aHg(i:Nat){v:Value}(h:CJ P X.n ops l i=some (d,v))(hk:uH ops listed i=true)(hQ:∀c a w,Q (.panic c) (Act.put a (some d) v) w→Q (.panic c) a w)
 (hg:GA P X μr Lr ops Q fuel (listed.setIfInBounds i true) μ ((d,v)::l) L):GA P X μr Lr ops Q (fuel+1) listed μ l L:=by
 obtain⟨k1,k2,k3⟩:=BH hk;unfold CJ at h;split at h
 ·rename_i o ho;unfold LR at h;split at h
  ·rename_i d' hd;split at h
   ·rename_i hn;split at h
    ·rename_i hw;split at h
     ·rename_i v' hv;simp only[aR,cD]at h;obtain⟨rfl,rfl⟩:=h;exact SX i ho hd hn hw k1 k2 k3 hQ (by cases o;exact LP hv) hg
     ·cases h
    ·rename_i hw;simp only[aR,cD]at h;obtain⟨rfl,rfl⟩:=h;exact aCd i ho hd hn hw k1 k2 k3 hQ hg
    ·cases h
   ·cases h
  ·cases h
 ·cases h
def zU(n:Nat)(ops:Array Oper)(l:bG)(i:Nat):Option (Nat×Oper):=match sD ops.toList i with
 | some o=>match sC n ops l o with
   |some d=>some (d,o)
   |none=>none
 |none=>none
theorem LV{n:Nat}(h:zU n ops l i=some (d,o)):sD ops.toList i=some o∧o.dst=some d∧Nat.blt d n=true∧dW ops l o=some true:=by
 unfold zU at h;split at h
 ·rename_i o' ho;split at h
  ·rename_i d' hd;simp only[aR,cD]at h;obtain⟨rfl,rfl⟩:=h;obtain⟨h1,h2,h3⟩:=lT hd;exact⟨ho,h1,h2,h3⟩
  ·cases h
 ·cases h
theorem aHf(i:Nat){v:Value}(h:zU X.n ops l i=some (d,o))(hk:uH ops listed i=true)(hQ:∀c a w,Q (.panic c) (Act.put a (some d) v) w→Q (.panic c) a w)(hv:Val P μr l Lr o v)
 (hg:GA P X μr Lr ops Q fuel (listed.setIfInBounds i true) μ ((d,v)::l) L):GA P X μr Lr ops Q (fuel+1) listed μ l L:=by
 obtain⟨k1,k2,k3⟩:=BH hk;obtain⟨ho,hd,hn,hw⟩:=LV h;exact SX i ho hd hn hw k1 k2 k3 hQ hv hg
theorem aHh(i:Nat){t:Nat}{b:Bool}(ho:sD ops.toList i=some o)(h:HW ops l o=some (t,b))(hb:uL b)(hg:PIf b (GA P X μr Lr ops Q fuel listed μ ((t,.bool true)::l) L) (GA P X μr Lr ops Q fuel listed μ ((t,.bool false)::l) L)):GA P X μr Lr ops Q fuel listed μ l L:=
 ZN i ho (tX h).1 (tX h).2 hb hg.1 hg.2
def aF2(X:Ctx){ι:Type}(J:ι→Prop)(μs:ι→Mem)(ls:ι→bG)(Ls:ι→List Bk)(a:Act)(w:World):Prop:=∃j,J j∧St X (μs j) (ls j) (Ls j) a w
theorem fK{x y:Code}{ι:Type}(J:ι→Prop)(μs:ι→Mem)(ls:ι→bG)(Ls:ι→List Bk)(d:GC P X x (Exit.then (aF2 X J μs ls Ls) Q) μ l L)(c:∀i,J i→GC P X y Q (μs i) (ls i) (Ls i)):GC P X (.seq x y) Q μ l L:=fun a w hs=>
 wp_seq (wp_mono (d a w hs) fun e a' w' h=>by
  cases e with
  |normal=>obtain⟨j,hJ,b⟩:=h;exact c j hJ a' w' b
  |_=>exact h)
end
end Go.Vcg
namespace Go.Proofs.YtknieidhopbngaaGreat
open Go.RowKit Go.Vcg
inductive T where
 |mk (op at' n m:Int) (s:ByteArray) (kids:List T)
namespace T
def op:T→Int|mk o _ _ _ _ _=>o
def at' :T→Int|mk _ a _ _ _ _=>a
def n:T→Int|mk _ _ n _ _ _=>n
def m:T→Int|mk _ _ _ m _ _=>m
def s:T→ByteArray|mk _ _ _ _ s _=>s
def kids:T→List T|mk _ _ _ _ _ k=>k
def zero:T:=mk 0 0 0 0 ⟨#[]⟩ []
theorem OB{t k:T}{i:Nat}(h:t.kids[i]? =some k):SizeOf.sizeOf k<SizeOf.sizeOf t:=by
 cases t with
 | mk o a n m s ks=>
   have hm:k∈ks:=aZ h;have:=List.sizeOf_lt_of_mem hm;simp;omega
def size:T→Nat|mk _ _ _ _ _ ks=>1+ (ks.attach.map fun⟨k,_⟩=>k.size).sum
theorem size_eq(t:T):t.size=1+ (t.kids.map size).sum:=by
 cases t with
 |mk o a n m s ks=>rw[size];simp[kids]
theorem IL{l:List Nat}{x:Nat}(h:x∈l):x≤l.sum:=by
 induction l with
 |nil=>cases h
 | cons y l ih=>
   rcases aV.1 h with rfl|h
   ·simp
   ·have:=ih h;simp;omega
theorem dX{t k:T}{i:Nat}(h:t.kids[i]? =some k):k.size<t.size:=by
 rw[size_eq t];have:=IL (List.mem_map.2 ⟨k,aZ h,rfl⟩:k.size∈t.kids.map size);omega
end T
abbrev dG(t:T)(v:Value):List Value:=[.int .i64 t.op,.int .i64 t.at',.int .i64 t.n,.int .i64 t.m,.string t.s,v]
abbrev bV(p:T×Value):List Value:=dG p.1 p.2
inductive KR (μ:Mem):List T→Value→Prop
 |mk (ks:List T) (A:Option Addr) (c:Nat) (vs:Nat→Value) (hcap:ks.length≤c) (hcell:∀i t,ks[i]? =some t→∃a,A=some a∧iK μ (a.add (i*6)) (dG t (vs i)))
    (hone:∀i t,ks[i]? =some t→(vs i).oneCell' =true) (hsub:∀i t,ks[i]? =some t→KR μ t.kids (vs i)):KR μ ks (.slice A ks.length c)
theorem KR.mono{μ μ' :Mem}(hle:MLe μ μ'){ks:List T}{v:Value}(h:KR μ ks v):KR μ' ks v:=by
 induction h with
 | mk ks A c vs hcap hcell hone hsub ih=>
   refine .mk ks A c vs hcap (fun i t hi=>?_) hone ih;obtain⟨a,e,hc⟩:=hcell i t hi;exact⟨a,e,hc.mono hle⟩
theorem KR.nil(μ:Mem)(A:Option Addr)(c:Nat):KR μ [] (.slice A 0 c):=.mk [] A c (fun _=>undef) (cU _) (fun i t h=>by simp at h) (fun i t h=>by simp at h) (fun i t h=>by simp at h)
theorem KR.form{μ:Mem}{ks:List T}{v:Value}(h:KR μ ks v):∃(A:Option Addr) (c:Nat),v=.slice A ks.length c∧ks.length≤c∧∀(i:Nat) (t:T),ks[i]? =some t→∃a u,A=some a∧iK μ (a.add (i*6)) (dG t u)∧u.oneCell' =true∧KR μ t.kids u:=by
 cases h with
 | mk _ A c vs hcap hcell hone hsub=>
   refine⟨A,c,rfl,hcap,fun i t hi=>?_⟩;obtain⟨a,e,hc⟩:=hcell i t hi;exact⟨a,_,e,hc,hone i t hi,hsub i t hi⟩
theorem KR.one{μ:Mem}{ks:List T}{v:Value}(h:KR μ ks v):v.oneCell' =true:=by cases h;rfl
def TV(μ:Mem)(t:T)(v:Value):Prop:=∃u,v=.agg (dG t u).toArray∧KR μ t.kids u
theorem KR.sl{μ:Mem}{ks:List T}{v:Value}(h:KR μ ks v):∃(A:Option Addr) (c:Nat) (ps:List (T×Value)),v=.slice A ks.length c∧ks.length≤c∧ps.map (·.1)=ks∧Sl bV 6 μ A ks.length ps∧∀p∈ps,KR μ p.1.kids p.2:=by
 cases h with
 | mk _ A c vs hcap hcell hone hsub=>
   have hg:∀(i:Nat) (p:T×Value),(ks.zipIdx.map fun x=>(x.1,vs x.2))[i]? =some p→ks[i]? =some p.1∧p.2=vs i:=fun i p hp=>by
    rw[eL,List.getElem?_zipIdx]at hp;cases hk:ks[i]? with
    |none=>simp[hk]at hp
    |some t=>simp[hk]at hp;subst hp;exact⟨rfl,rfl⟩
   refine⟨A,c,ks.zipIdx.map fun x=>(x.1,vs x.2),rfl,hcap,?_,⟨by simp,fun hp=>?_⟩,fun p hp=>?_⟩
   ·rw[List.map_map];exact List.zipIdx_map_fst 0 ks
   ·obtain⟨a,e,_⟩:=hcell 0 _ (aI hp);refine⟨a,e,fun i p b=>?_⟩;obtain⟨h1,h2⟩:=hg i p b;obtain⟨a',e',hc⟩:=hcell i _ h1;rw[e]at e';cases e';show iK μ _ (dG p.1 p.2)
    rw[h2];exact hc
   ·obtain⟨i,hi⟩:=List.mem_iff_getElem?.1 hp;obtain⟨h1,h2⟩:=hg i p hi;rw[h2];exact hsub i _ h1
end Go.Proofs.YtknieidhopbngaaGreat
namespace Go.Vcg
section
open Go.RowKit
section
variable{P:Program}{X:Ctx}{ops:Array Oper}{Q:Exit→Act→World→Prop}{rest:List Oper}{μ μr:Mem}{l:bG}{L Lr:List Bk}{a:Act}{w:World}{o:Oper}{d fuel i:Nat}{listed:Array Bool}
variable{ty:TypeId}{pos:String}{af:Array Edge}{gd:Option (Nat×Bool)}{ds:Option Nat}
def bAt(s:ByteArray)(k:Nat):Int:=((s.data.toList[k]?).getD 0).toNat
theorem fQ(s:ByteArray)(k:Nat):0≤bAt s k:=by unfold bAt;omega
theorem fR(s:ByteArray)(k:Nat):bAt s k≤255:=by
 unfold bAt;have:=((s.data.toList[k]?).getD 0).toNat_lt;omega
theorem OI{t:TypeId}{s:ByteArray}{k:Nat}(ht:P.underlying t=some .string)(hk:k<s.size)(w:World):(Instr.index t (.string s) (.int .i64 (k:Int))).run P w=.ok (.int .u8 (bAt s k)) w:=by
 have h1:s[k]? =some s[k]:=by simp[hk]
 have h2:bAt s k=s[k].toNat:=by
  unfold bAt;have:s.data.toList[k]? =some s[k]:=by rw[Array.getElem?_toList];exact Array.getElem?_eq_getElem hk
  rw[this];rfl
 simp[Instr.index,asIntOf,run_underlying ht,h1,h2]
theorem CZ{p q:Operand}{t:TypeId}{s:ByteArray}{i:Int}(k:Nat)(ht:P.underlying t=some .string)(hx0:ev l p=some (.string s))(hx1:ev l q=some (.int .i64 i))(hi:i=(k:Int))(hk:k<s.size):
 Val P μ l L ⟨ds,.index t p q,ty,pos,af,gd⟩ (.int .u8 (bAt s k)):=fun a w hs=>by
 have e0:=hs.eval hx0;have e1:=hs.eval hx1;generalize a.eval=ρ at e0 e1;subst hi;simp[execOp,e0,e1,OI ht hk]
theorem NS{p q:Operand}{t:TypeId}{s:ByteArray}{k:Nat}(ht:P.underlying t=some .string)(hx0:ev l p=some (.string s))(hx1:ev l q=some (.int .i64 (k:Int)))(hk:k<s.size):
 Val P μ l L ⟨ds,.index t p q,ty,pos,af,gd⟩ (.int .u8 (bAt s k)):=CZ k ht hx0 hx1 rfl hk
theorem wrap_u8{x:Int}(h:0≤x∧x≤255):IntKind.wrap .u8 x=x:=by
 simp only[IntKind.wrap];simp[IntKind.signed,IntKind.bits];omega
theorem wrap_i64{x:Int}(h: -9223372036854775808≤x∧x≤9223372036854775807):IntKind.wrap .i64 x=x:=by
 simp only[IntKind.wrap];simp[IntKind.signed,IntKind.bits];omega
def arB(l:bG)(op:Op):Option Int:=match op with
 | .binOp op _ p q _=>match ev l p,ev l q with
   | some (.int .u8 x),some (.int .u8 y)=>match op with
     |.add=>some (x+y)
     |.sub=>some (x-y)
     |_=>none
   |_,_=>none
 |_=>none
theorem WG{op:Op}{r:Int}(h:arB l op=some r)(hb:0≤r∧r≤255):Val P μ l L ⟨ds,op,ty,pos,af,gd⟩ (.int .u8 r):=by
 unfold arB at h;split at h
 ·split at h
  ·rename_i x y hp a;split at h
   ·simp only[aR]at h;subst h;rw[show(Value.int .u8 (x+y))=.int .u8 (IntKind.wrap .u8 (x+y))by rw[wrap_u8 hb]];exact aC8 hp a
   ·simp only[aR]at h;subst h;rw[show(Value.int .u8 (x-y))=.int .u8 (IntKind.wrap .u8 (x-y))by rw[wrap_u8 hb]];exact aC7 hp a
   ·cases h
  ·cases h
 ·cases h
theorem NY{p:Operand}{t u:TypeId}{k:IntKind}{x:Int}{de:TypeDesc}(hx0:ev l p=some (.int k x))(ht:P.underlying t=some de)(hu:P.underlying u=some (.int .i64))(hb: -9223372036854775808≤x∧x≤9223372036854775807):Val P μ l L ⟨ds,.convert t u p,ty,pos,af,gd⟩ (.int .i64 x):=by
 have:=WT (P:=P) (μ:=μ) (L:=L) (ds:=ds) (ty:=ty) (pos:=pos) (af:=af) (gd:=gd) hx0 ht hu;rw[wrap_i64 hb]at this;exact this
theorem aAx{p q:Operand}{t t2:TypeId}{x y:Int}(hx0:ev l p=some (.int .i64 x))(hx1:ev l q=some (.int .i64 y))(a:y≠0)(hb: -9223372036854775808≤x.tdiv y∧x.tdiv y≤9223372036854775807):Val P μ l L ⟨ds,.binOp .quo t p q t2,ty,pos,af,gd⟩ (.int .i64 (x.tdiv y)):=by
 rw[show(Value.int .i64 (x.tdiv y))=.int .i64 (IntKind.wrap .i64 (x.tdiv y))by rw[wrap_i64 hb]];exact RE hx0 hx1 a
theorem WS{x y:Operand}{ts:Array TypeId}{i j:Int}(b:ev l x=some (.int .i64 i))(h1:ev l y=some (.int .i64 j)):Val P μ l L ⟨ds,.call { callee:=.builtin .max,args:= #[x,y],argTypes:=ts },ty,pos,af,gd⟩ (.int .i64 (if i<j then j else i)):=fun a w hs=>by
 have e0:=hs.eval b;have e1:=hs.eval h1;generalize a.eval=ρ at e0 e1;simp[execOp,resolve,invoke,builtin,Builtin.max_,Builtin.max2,e0,e1]
def ZZ(P:Program)(t:TypeId)(i:Nat)(vs:List Value):Option Value:=match P.underlying t with
 | some (.struct fs)=>match fs[i]? with
   | some f=>match pM P f.type with
     |some false=>vJ f.offset fun k=>JG vs k
     |_=>none
   |none=>none
 |_=>none
theorem KJ{p:Operand}{t:TypeId}{i:Nat}{vs:List Value}{v:Value}(hx0:ev l p=some (.agg vs.toArray))(hf:ZZ P t i vs=some v):Val P μ l L ⟨ds,.field t p i,ty,pos,af,gd⟩ v:=fun a w hs=>by
 have e0:=hs.eval hx0;generalize a.eval=ρ at e0;unfold ZZ at hf;split at hf
 ·rename_i fs hu;split at hf
  ·rename_i f hi;split at hf
   ·rename_i b;rw[sW,CO]at hf;have:(part f.type vs.toArray f.offset).run P w=.ok v w:=vA b (by simpa using hf);simp[execOp,e0,Instr.field,run_underlying hu,hi,asAgg,this]
   ·cases hf
  ·cases hf
 ·cases hf
abbrev bl(s:ByteArray):List UInt8:=s.data.toList
theorem dU(s:ByteArray):(bl s).length=s.size:=by simp[bl]
theorem wF{s t:ByteArray}(h:bl s=bl t):s=t:=by
 cases s;cases t;simp only[bl]at h;congr;exact Array.toList_inj.1 h
theorem oU(s:ByteArray)(a b:Nat):bl (s.extract a b)=((bl s).drop a).take (b-a):=by
 simp[bl,ByteArray.data_extract]
theorem JZ{s:ByteArray}{k:Nat}{b:UInt8}(h:(bl s)[k]? =some b):bAt s k=b.toNat:=by
 unfold bAt;rw[h];rfl
end
end
section
open Go.RowKit Go.MapKept
section
variable{P:Program}{X:Ctx}{ops:Array Oper}{Q:Exit→Act→World→Prop}{rest:List Oper}{μ μr:Mem}{l:bG}{L Lr:List Bk}{a:Act}{w:World}{o:Oper}{d fuel i:Nat}{listed:Array Bool}
variable{ty:TypeId}{pos:String}{af:Array Edge}{gd:Option (Nat×Bool)}{ds:Option Nat}
theorem St.aHz(h:St X μ l L a w)(x:Obj)(y:Bk)(hid:Bk.id y=some w.heap.size)(g:Bk.at y (w.alloc x)):St X μ l (y::L) a (w.alloc x):=by
 have hold:∀b,b<w.heap.size→(w.alloc x).heap[b]? =w.heap[b]? :=fun b hb=>Below.heap_alloc w _ b hb;have d:∀x∈L,∀b,Bk.id x=some b→b<w.heap.size:=fun x c b hb=>Bk.lt (h.own x c) hb;refine⟨h.size,h.defers,h.slots,⟨h.cW.os,h.cW.tape,h.cW.output,bO h.cW.size (by simp),fun b hb j=>?_⟩,fun b o hb=>?_,h.from0,h.fresh,fun x c=>?_,fun x c b hb=>?_,fun x c b hb=>?_,?_⟩
 ·rw[hold b (dJ hb h.cW.size)];exact h.cW.block b hb j
 ·have:=h.mem b o hb;rw[hold b (Array.getElem?_eq_some_iff.1 this).1];exact this
 ·rcases aV.1 c with rfl|c
  ·exact g
  ·exact Bk.cW (h.own x c) (fun b hb=>hold b (d x c b hb))
 ·rcases aV.1 c with rfl|c
  ·rw[hid]at hb;cases hb;cases hm:μ w.heap.size with
   |none=>rfl
   | some o=>
     have:=(Array.getElem?_eq_some_iff.1 (h.mem _ _ hm)).1;omega
  ·exact h.priv x c b hb
 ·rcases aV.1 c with rfl|c
  ·rw[hid]at hb;cases hb;exact .inr h.cW.size
  ·exact h.new x c b hb
 ·refine List.pairwise_cons.2 ⟨fun y g b hb i=>?_,h.diff⟩;have h1:=d y g b i;rw[hid]at hb;have h2:w.heap.size=b:=jX hb;omega
end
end
section
open Go.RowKit
section
variable{P:Program}{μ:Mem}{l:bG}{L:List Bk}{a:Act}{w:World}
def RVs(P:Program)(μ:Mem)(l:bG)(L:List Bk):List ResultVar→List Value→Prop
 |[],[]=>True
 |r::rs,v::vs=>RV P μ l L r v∧RVs P μ l L rs vs
 |_,_=>False
theorem jW:RVs P μ l L [] []:=trivial
theorem eN{r:ResultVar}{rs:List ResultVar}{v:Value}{vs:List Value}(h:RV P μ l L r v)(hs:RVs P μ l L rs vs):RVs P μ l L (r::rs) (v::vs):=⟨h,hs⟩
theorem yN(hs:Rd μ l L a w):∀{rs:List ResultVar} {vs:List Value},RVs P μ l L rs vs→(rs.mapM (ResultVar.get a.tmps)).run P w=.ok vs w
 |[],[],_=>by simp
 | r::rs,v::vs,h=>by have h1:=h.1 a w hs;have h2:=yN hs h.2;simp[List.mapM_cons,h1,h2]
 |[],_::_,h=>by cases h
 |_::_,[],h=>by cases h
theorem yO{fn:Func}{rs:List ResultVar}{vs:List Value}(hr:fn.results=rs.toArray)(h:RVs P μ l L rs vs)(hl:Nat.beq vs.length 1=false)(hs:Rd μ l L a w):(results fn a.tmps).run P w=.ok (.tuple vs.toArray) w:=by
 have h1:=yN hs h;have h2:¬vs.length=1:=Nat.ne_of_beq_eq_false hl;have e:results fn a.tmps=(do let vs←rs.toArray.mapM (ResultVar.get a.tmps);pure (if h:vs.size=1 then vs[0]else .tuple vs)):=by unfold results;rw[hr];refine congrArg (fun f=>(rs.toArray.mapM f>>=fun vs=>pure (if h:vs.size=1 then vs[0]else .tuple vs):Sem Value)) ?_;funext r;cases r<;>rfl
 rw[e];simp only[List.mapM_toArray];simp[h1,h2]
theorem nH{fn:Func}{n:Nat}{rs:List ResultVar}{vs:List Value}{v:Value}{w:World}{μ0:Mem}(hr:fn.results=rs.toArray)(h:RVs P μ l L rs vs)(hl:Nat.beq vs.length 1=false)(e: .tuple vs.toArray=v):
 GQ ⟨w,μ0,[],n⟩ (bodyPost P fn (fun e w' =>e=.returned v∧Below w.heap.size w w')) .ret μ l L:=fun a w' hs=>
 ⟨hs.defers.none (by simp),.tuple vs.toArray,yO hr h hl hs.rd,by rw[e],hs.cW.below⟩
end
end
section
open Go.RowKit
def fM:List Bk→List Nat
 |[]=>[]
 | x::r=>match Bk.id x with
   |some b=>b::fM r
   |none=>fM r
theorem fX{L:List Bk}{b:Nat}:b∈fM L↔ ∃x∈L,Bk.id x=some b:=by
 induction L with
 |nil=>simp[fM]
 | cons y r ih=>
   unfold fM;cases h:Bk.id y with
   |none=>simp[ih,h]
   | some c=>
     simp only[aV,ih,exists_eq_or_imp,h,aR];constructor
     ·rintro(rfl|h)<;>simp[*]
     ·rintro(rfl|h)<;>simp[*]
structure Own (μ:Mem) (L:List Bk) (w:World):Prop where
 own:∀x∈L,Bk.at x w
 priv:∀x∈L,∀b,Bk.id x=some b→μ b=none
 diff:L.Pairwise (fun x y=>∀b,Bk.id x=some b→Bk.id y≠some b)
structure aHs (M:List Nat) (w w' :World) (μ μ' :Mem):Prop where
 os:w'.os=w.os
 tape:w'.tape=w.tape
 output:w'.output=w.output
 size:w.heap.size≤w'.heap.size
 block:∀b,b<w.heap.size→b∉M→w'.heap[b]? =w.heap[b]?
 le:MLe μ μ'
 ok:MOk μ' w'
 fresh:∀b,b<w.heap.size→b∉M→μ b=none→μ' b=none
def iO(M:List Nat)(w w' :World)(μ:Mem)(L' :List Bk)(μ' :Mem):Prop:=
 aHs M w w' μ μ' ∧Own μ' L' w' ∧∀x∈L',∀b,Bk.id x=some b→b∈M∨w.heap.size≤b
section
variable{P:Program}{X:Ctx}{ops:Array Oper}{Q:Exit→Act→World→Prop}{rest:List Oper}{μ:Mem}{l:bG}{L:List Bk}{a:Act}{w:World}{o:Oper}{d:Nat}
theorem St.aFz{LB Lr L' :List Bk}{w' :World}{μ' :Mem}(h:St X μ l (LB++Lr) a w)(hb:iO (fM LB) w w' μ L' μ'):St X μ' l (L' ++Lr) a w' :=by
 obtain⟨hg,ho,hn⟩:=hb;have hd:=List.pairwise_append.1 h.diff;have j:∀x∈LB++Lr,∀b,Bk.id x=some b→b<w.heap.size:=fun x c b hb=>Bk.lt (h.own x c) hb;have g:∀b∈fM LB,b∈X.M∨X.w0.heap.size≤b:=fun b hb=>by obtain⟨x,c,d⟩:=fX.1 hb;exact h.new x (cV _ c) b d
 have hr:∀x∈Lr,∀b,Bk.id x=some b→b∉fM LB:=fun x c b d hb=>by obtain⟨y,p,i⟩:=fX.1 hb;exact hd.2.2 y p x c b i d
 refine⟨h.size,h.defers.mono hg.le,h.slots,⟨hg.os.trans h.cW.os,hg.tape.trans h.cW.tape,hg.output.trans h.cW.output,bO h.cW.size hg.size,fun b hb o=>?_⟩,hg.ok,h.from0.trans hg.le,fun b hb o q=>?_,fun x c=>?_,fun x c b d=>?_,fun x c b d=>?_,?_⟩
 ·have:b∉fM LB:=fun k=>by
   rcases g b k with h1|h1
   ·exact o h1
   ·omega
  rw[hg.block b (dJ hb h.cW.size) this];exact h.cW.block b hb o
 ·have:b∉fM LB:=fun k=>by
   rcases g b k with h1|h1
   ·exact o h1
   ·omega
  exact hg.fresh b (dJ hb h.cW.size) this (h.fresh b hb o q)
 ·rcases bU.1 c with c|c
  ·exact ho.own x c
  ·exact Bk.cW (h.own x (cO _ c)) fun b hb=>hg.block b (j x (cO _ c) b hb) (hr x c b hb)
 ·rcases bU.1 c with c|c
  ·exact ho.priv x c b d
  ·exact hg.fresh b (j x (cO _ c) b d) (hr x c b d) (h.priv x (cO _ c) b d)
 ·rcases bU.1 c with c|c
  ·rcases hn x c b d with h1|h1
   ·exact g b h1
   ·exact .inr (bO h.cW.size h1)
  ·exact h.new x (cO _ c) b d
 ·refine List.pairwise_append.2 ⟨ho.diff,hd.2.1,fun x c y p b d i=>?_⟩;rcases hn x c b d with h1|h1
  ·exact hr y p b i h1
  ·have:=j y (cO _ p) b i;omega
def splitB:Nat→List Bk→Option (List Bk×List Bk)
 |0,L=>some ([],L)
 |_+1,[]=>none
 | k+1,x::r=>match splitB k r with
   |some (a,b)=>some (x::a,b)
   |none=>none
theorem iA:∀{k:Nat} {L a b:List Bk},splitB k L=some (a,b)→L=a++b
 |0,L,a,b,h=>by simp[splitB]at h;obtain⟨rfl,rfl⟩:=h;rfl
 |k+1,[],a,b,h=>by simp[splitB]at h
 | k+1,x::r,a,b,h=>by
   unfold splitB at h;split at h
   ·rename_i a' b' he;cases h;rw[iA he];rfl
   ·cases h
theorem MQ{f:FuncId}{vs:Array Value}{ι:Type}{Ls:ι→List Bk}{Post:Mem→Value→ι→Prop}{LB Lr:List Bk}(k:Nat)(hd:o.dst=some d)(hn:Nat.blt d X.n=true)(hw:dW ops l o=some true)(hr:Ent P μ l L o f vs)
 (hL:splitB k L=some (LB,Lr))
 (hc:∀w,MOk μ w→Own μ LB w→Calls P f vs w fun e w' =>∃v μ' i,e=.returned v∧iO (fM LB) w w' μ (Ls i) μ' ∧Post μ' v i)
 (h:∀v μ' i,MLe μ μ' →Post μ' v i→G P X ops Q rest μ' ((d,v)::l) (Ls i++Lr)):G P X ops Q (o::rest) μ l L:=
 BU hw fun a w hs=>by
  unfold Oper.wp;rw[hr a w hs.rd,Oper.upon_enter];have he:=iA hL;subst he;have c:Own μ LB w:=⟨fun x b=>hs.own x (cV _ b),fun x b=>hs.priv x (cV _ b),(List.pairwise_append.1 hs.diff).1⟩;refine(hc w hs.mem c).mono fun e w' he=>?_;obtain⟨v,μ',i,rfl,hb,hp⟩:=he;show wpList P ops Q rest (a.put o.dst v) w'
  rw[hd];exact h v μ' i hb.1.le hp _ _ ((hs.aFz hb).put hn _)
theorem aC{f:FuncId}{fn:Func}{c:Code}{args:List Value}{n:Nat}{R:Ending→World→Prop}{LB:List Bk}(hf:P.funcs[f]? =some fn)(hb:fn.body=some c)(hn:fn.ntmps=n)(j:args.length≤n)
 (hμ:MOk μ w)(g:Own μ LB w)(h:GC P ⟨w,μ,fM LB,n⟩ c (bodyPost P fn R) μ (idx 0 args) LB):Calls P f args.toArray w R:=by
 refine calls_of_wp hf hb (h _ _ ⟨?_,Marks.nil,fun t v hv=>?_,yH.refl _ _,hμ,MLe.refl _,fun _ _ _ h=>h,g.own,g.priv,fun x i b a=>.inl (fX.2 ⟨x,i,a⟩),g.diff⟩)
 ·simp[hn];omega
 ·obtain⟨_,h2⟩:=vN _ _ _ _ hv;have d:t<args.length:=by have:=(List.getElem?_eq_some_iff.1 h2).1;simpa using this
  simp only[lJ]at h2;rw[hZ (by simpa using d)];simpa using h2
theorem St.rH{n:Nat}{μ0:Mem}{w' :World}{M:List Nat}{L' Lr:List Bk}(hs:St ⟨w,μ0,M,n⟩ μ l (L' ++Lr) a w'):∃μ',iO M w w' μ0 L' μ' ∧MLe μ μ' :=by
 have hd:=List.pairwise_append.1 hs.diff;refine⟨fun b=>if b<w.heap.size then μ b else if b∈fM L' then none else w'.heap[b]?,⟨⟨hs.cW.os,hs.cW.tape,hs.cW.output,hs.cW.size,hs.cW.block,fun b o e=>?_,fun b o e=>?_,fun b hb h i=>?_⟩,⟨fun x g=>hs.own x (cV _ g),fun x g b c=>?_,hd.1⟩,fun x g=>hs.new x (cV _ g)⟩,fun b o e=>?_⟩
 ·have e2:=hs.from0 b o e;by_cases hb:b<w.heap.size
  ·simp[hb,e2]
  ·have:b∉fM L' :=fun d=>by obtain⟨x,g,c⟩:=fX.1 d;rw[hs.priv x (cV _ g) b c]at e2;cases e2
   simp[hb,this];exact hs.mem b o e2
 ·by_cases hb:b<w.heap.size
  ·simp[hb]at e;exact hs.mem b o e
  ·by_cases d:b∈fM L'
   ·simp[hb,d]at e
   ·simp[hb,d]at e;exact e
 ·simp[hb];exact hs.fresh b hb h i
 ·have:=hs.priv x (cV _ g) b c;by_cases hb:b<w.heap.size
  ·simp[hb,this]
  ·simp[hb,fX.2 ⟨x,g,c⟩]
 ·by_cases hb:b<w.heap.size
  ·simp[hb,e]
  ·have:b∉fM L' :=fun d=>by obtain⟨x,g,c⟩:=fX.1 d;rw[hs.priv x (cV _ g) b c]at e;cases e
   simp[hb,this];exact hs.mem b o e
theorem aBg{fn:Func}{n:Nat}{r:ResultVar}{v:Value}{μ0:Mem}{M:List Nat}{ι:Type}{Ls:ι→List Bk}{Post:Mem→Value→ι→Prop}{L' Lr:List Bk}(k:Nat)(i:ι)(c:∀D,M.count D≤1)(hr:fn.results= #[r])(h:RV P μ l L r v)(hL:splitB k L=some (L',Lr))(b:Ls i=L')
 (hp:∀μ',MLe μ μ' →Post μ' v i):
 GQ ⟨w,μ0,M,n⟩ (bodyPost P fn (fun e w' =>∃v μ' i,e=.returned v∧iO M w w' μ0 (Ls i) μ' ∧Post μ' v i)) .ret μ l L:=fun a w' hs=>by
 have he:=iA hL;subst he;obtain⟨μ',hb,hle⟩:=hs.rH;subst b;exact⟨hs.defers.none c,v,results1 hr h hs.rd,v,μ',i,rfl,hb,hp μ' hle⟩
end
end
section
open Go.RowKit
inductive jC:Bk→Bk→Prop
 |refl (x:Bk):jC x x
 |cells {b:Nat} {t:TypeId} {sz:Nat} {cs cs' :bG} (h:pN cs' cs):jC (.inl ⟨b,t,sz,cs'⟩) (.inl ⟨b,t,sz,cs⟩)
inductive Sel:List Bk→List Bk→Prop
 |nil (L:List Bk):Sel [] L
 |cons {x y:Bk} {r a b:List Bk} (h:jC x y) (hr:Sel r (a++b)):Sel (x::r) (a++y::b)
theorem jC.id{x y:Bk}(h:jC x y):Bk.id x=Bk.id y:=by cases h<;>rfl
theorem jC.at{x y:Bk}{w:World}(h:jC x y)(a:Bk.at y w):Bk.at x w:=by
 cases h with
 |refl=>exact a
 | cells h=>
   obtain⟨arr,h1,h2,h3⟩:=a;exact⟨arr,h1,h2,fun k v hk=>h3 k v (h k v hk)⟩
theorem CA{L' L:List Bk}(h:Sel L' L):∀x∈L',∃y∈L,jC x y:=by
 induction h with
 |nil L=>intro x c;cases c
 | cons h hr ih=>
   intro z b;rcases aV.1 b with rfl|b
   ·exact⟨_,by simp,h⟩
   ·obtain⟨y,a,hle⟩:=ih z b;refine⟨y,?_,hle⟩;rcases bU.1 a with a|a<;>simp[a]
def Df(x y:Bk):Prop:=∀b,Bk.id x=some b→Bk.id y≠some b
theorem XF{L' L:List Bk}(h:Sel L' L):L.Pairwise Df→L'.Pairwise Df:=by
 induction h with
 |nil L=>intro _;exact eM
 | @cons x y r a b h hr ih=>
   intro hd;have j:(y::(a++b)).Pairwise Df:=(eR.pairwise_iff (fun{_ _} i b hb k=>i b k hb)).1 hd;obtain⟨h1,h2⟩:=List.pairwise_cons.1 j;refine List.pairwise_cons.2 ⟨fun z l c hc d=>?_,ih h2⟩;obtain⟨y2,g,hle⟩:=CA hr z l;exact h1 y2 g c (by rw[←h.id];exact hc) (by rw[←hle.id];exact d)
section
variable{P:Program}{X:Ctx}{Q:Exit→Act→World→Prop}{μ:Mem}{l:bG}{L:List Bk}{a:Act}{w:World}
theorem St.sel{l' :bG}{L' :List Bk}(h:St X μ l L a w)(hl:pN l' l)(hL:Sel L' L):St X μ l' L' a w:=
 ⟨h.size,h.defers,fun t v hv=>h.slots t v (hl t v hv),h.cW,h.mem,h.from0,h.fresh,fun x d=>let ⟨y,c,hle⟩:=CA hL x d;hle.at (h.own y c),fun x d b hb=>let ⟨y,c,hle⟩:=CA hL x d;h.priv y c b (by rw[←hle.id];exact hb),fun x d b hb=>let ⟨y,c,hle⟩:=CA hL x d;h.new y c b (by rw[←hle.id];exact hb),XF hL h.diff⟩
theorem ZF{ι:Type}{J:ι→Prop}{μs:ι→Mem}{ls:ι→bG}{Ls:ι→List Bk}(j:ι)(hJ:J j)(hμ:μs j=μ)(hl:pN (ls j) l)(hL:Sel (Ls j) L):
 GQ X (Exit.then (aF2 X J μs ls Ls) Q) .normal μ l L:=fun a w hs=>⟨j,hJ,by rw[hμ];exact hs.sel hl hL⟩
theorem dZ{ι:Type}{J:ι→Prop}{m:ι→Nat}{μs:ι→Mem}{ls:ι→bG}{Ls:ι→List Bk}{i:ι}(j:ι)(hJ:J j)(hm:m j<m i)(hμ:μs j=μ)(hl:pN (ls j) l)(hL:Sel (Ls j) L):
 GQ X (Exit.then (aAs X J m μs ls Ls i) Q) .normal μ l L:=fun a w hs=>⟨j,hJ,hm,by rw[hμ];exact hs.sel hl hL⟩
theorem jT{x y:Bk}{r L:List Bk}(h:jC x y)(hr:Sel r (L)):Sel (x::r) (y::L):=Sel.cons (a:=[]) h hr
theorem RP{x y:Bk}{y0:Bk}{r L:List Bk}(h:jC x y)(hr:Sel r (y0::L)):Sel (x::r) (y0::y::L):=Sel.cons (a:=[y0]) h hr
theorem aGf{x y:Bk}{y0 y1:Bk}{r L:List Bk}(h:jC x y)(hr:Sel r (y0::y1::L)):Sel (x::r) (y0::y1::y::L):=Sel.cons (a:=[y0,y1]) h hr
theorem aGe{x y:Bk}{y0 y1 y2:Bk}{r L:List Bk}(h:jC x y)(hr:Sel r (y0::y1::y2::L)):Sel (x::r) (y0::y1::y2::y::L):=Sel.cons (a:=[y0,y1,y2]) h hr
theorem RI:∀{L:List Bk} {i:Nat} {x:Bk},jO L i=some x→nQ L i x=L
 |[],_,_,h=>by simp[jO]at h
 |y::r,0,x,h=>by simp[jO]at h;simp[nQ,h]
 |y::r,i+1,x,h=>by simp only[nQ];rw[RI (i:=i) (by simpa[jO]using h)]
theorem St.aDg{i:Nat}{v:Value}{e s n n' :Nat}{xs xs' :List Value}(h:St X μ l L a w)(hi:jO L i=some (.inr ⟨v,e,s,n,xs⟩))(hn:n=n')(b:xs=xs'):St X μ l (nQ L i (.inr ⟨v,e,s,n',xs'⟩)) a w:=by
 subst hn b;rw[RI hi];exact h
theorem ZE{ex:Exit}{v:Value}{e s n n' :Nat}{xs xs' :List Value}(i:Nat)(hi:jO L i=some (.inr ⟨v,e,s,n,xs⟩))(hn:n=n')(b:xs=xs')(h:GQ X Q ex μ l (nQ L i (.inr ⟨v,e,s,n',xs'⟩))):GQ X Q ex μ l L:=fun a w hs=>h a w (hs.aDg hi hn b)
def GCs(P:Program)(X:Ctx)(c:Code)(Q:Exit→Act→World→Prop)(μ:Mem)(l:bG)(L:List Bk):Prop:=GC P X c Q μ l L
theorem dE{c:Code}(h:GCs P X c Q μ l L):GC P X c Q μ l L:=h
theorem gcs{c:Code}(h:GC P X c Q μ l L):GCs P X c Q μ l L:=h
end
end
section
open Go.RowKit
section
variable{P:Program}{X:Ctx}{ops:Array Oper}{Q:Exit→Act→World→Prop}{rest:List Oper}{μ μr:Mem}{l:bG}{L Lr:List Bk}{a:Act}{w:World}{o:Oper}{d fuel i:Nat}{listed:Array Bool}
variable{ty:TypeId}{pos:String}{af:Array Edge}{gd:Option (Nat×Bool)}{ds:Option Nat}
theorem Y0{b off:Nat}{vs:List Value}{L' :List Bk}(hg:G P X ops Q rest μ l L')
 (hd:SH ops l o=true:=by exact rfl)
 (h:stop P l o.op=some (b,off,vs):=by exact rfl)
 (h1:KE vs:=by((repeat first|with_reducible exact eG|((with_reducible apply dO);(first|exact rfl|assumption)));done))
 (hu:UpB L b off vs L' :=by((repeat first|with_reducible apply pO|with_reducible apply tK);exact rfl;(repeat first|with_reducible exact fL|with_reducible apply dY);done)):
 G P X ops Q (o::rest) μ l L:=BV (hd:=hd) (h:=h) (h1:=h1) (hu:=hu) (hg:=hg)
theorem J1{ι:Type}{J:ι→Prop}{μs:ι→Mem}{ls:ι→bG}{Ls:ι→List Bk}(j:ι)(hJ:J j)
 (hμ:μs j=μ:=by exact rfl)
 (hl:pN (ls j) l:=by((repeat first|exact eK|refine cZ rfl ?_);done))
 (hL:Sel (Ls j) L:=by((repeat first|exact Sel.nil _|(refine jT ?_ ?_;focus(first|exact jC.refl _|(refine jC.cells ?_;repeat first|exact eK|refine cZ rfl ?_)))|(refine RP ?_ ?_;focus(exact jC.refl _)));done)):
 GQ X (Exit.then (aF2 X J μs ls Ls) Q) .normal μ l L:=ZF (j:=j) (hJ:=hJ) (hμ:=hμ) (hl:=hl) (hL:=hL)
theorem J2{ι:Type}{J:ι→Prop}{m:ι→Nat}{μs:ι→Mem}{ls:ι→bG}{Ls:ι→List Bk}{i:ι}(j:ι)(hJ:J j)(hm:m j<m i)
 (hμ:μs j=μ:=by exact rfl)
 (hl:pN (ls j) l:=by((repeat first|exact eK|refine cZ rfl ?_);done))
 (hL:Sel (Ls j) L:=by((repeat first|exact Sel.nil _|(refine jT ?_ ?_;focus(first|exact jC.refl _|(refine jC.cells ?_;repeat first|exact eK|refine cZ rfl ?_)))|(refine RP ?_ ?_;focus(first|exact jC.refl _|(refine jC.cells ?_;repeat first|exact eK|refine cZ rfl ?_))));done)):
 GQ X (Exit.then (aAs X J m μs ls Ls i) Q) .normal μ l L:=dZ (j:=j) (hJ:=hJ) (hm:=hm) (hμ:=hμ) (hl:=hl) (hL:=hL)
theorem J4{ι:Type}{J:ι→Prop}{m:ι→Nat}{μs:ι→Mem}{ls:ι→bG}{Ls:ι→List Bk}{i:ι}(j:ι)(hJ:J j)(hm:m j<m i)
 (hμ:μs j=μ:=by exact rfl)
 (hl:pN (ls j) l:=by((repeat first|exact eK|refine cZ rfl ?_);done))
 (hL:(Ls j).Sublist L:=by((repeat exact aH _);done)):
 GQ X (Exit.then (aAs X J m μs ls Ls i) Q) .normal μ l L:=gG (j:=j) (hJ:=hJ) (hm:=hm) (hμ:=hμ) (hl:=hl) (hL:=hL)
theorem J5{l' :bG}{L' :List Bk}(h:St X μ l L a w)
 (hl:pN l' l:=by((repeat first|exact eK|refine cZ rfl ?_);done))
 (hL:Sel L' L:=by((repeat first|exact Sel.nil _|(refine jT ?_ ?_;focus(first|exact jC.refl _|(refine jC.cells ?_;repeat first|exact eK|refine cZ rfl ?_)))|(refine RP ?_ ?_;focus(exact jC.refl _)));done)):
 St X μ l' L' a w:=St.sel (h:=h) (hl:=hl) (hL:=hL)
theorem J6{X:Ctx}{μ:Mem}{l l' :bG}{L L' :List Bk}{a:Act}{w:World}(h:St X μ l L a w)
 (hl:pN l' l:=by((repeat first|exact eK|refine cZ rfl ?_);done))
 (hL:L'.Sublist L:=by((repeat exact aH _);done)):
 St X μ l' L' a w:=St.sub (h:=h) (hl:=hl) (hL:=hL)
theorem D1{v:Value}(i:Nat)(hg:GA P X μr Lr ops Q fuel (listed.setIfInBounds i true) μ ((d,v)::l) L)
 (h:CJ P X.n ops l i=some (d,v):=by exact rfl)
 (hk:uH ops listed i=true:=by kernel_rfl)
 (hQ:∀c a w,Q (.panic c) (Act.put a (some d) v) w→Q (.panic c) a w:=by exact fun _ _ _ h=>h):
 GA P X μr Lr ops Q (fuel+1) listed μ l L:=aHg (i:=i) (h:=h) (hk:=hk) (hQ:=hQ) (hg:=hg)
theorem D3  (i:Nat)(h:dV P X μr Lr ops Q fuel listed i μ l L)
 (hr:Region.ready .any ops listed=[i]:=by kernel_rfl):
 GA P X μr Lr ops Q (fuel+1) listed μ l L:=aCf (i:=i) (hr:=hr) (h:=h)
theorem D5  (h:G P X ops (QA Q (fun a w=>Sm μr Lr w∧wpAnyH P .any ops Q (Sm μr Lr) fuel (listed.setIfInBounds i true) a w)) [o] μ l L)
 (ho:sD ops.toList i=some o:=by exact rfl):
 dV P X μr Lr ops Q fuel listed i μ l L:=aFg (ho:=ho) (h:=h)
theorem D6{i:Nat}(h:GA P X μr Lr ops Q fuel (listed.setIfInBounds i true) μ ((d,undef)::l) L)
 (ho:sD ops.toList i=some o:=by exact rfl)
 (hd:o.dst=some d:=by exact rfl)
 (hn:Nat.blt d X.n=true:=by exact rfl)
 (hw:dW ops l o=some false:=by exact rfl):
 dV P X μr Lr ops Q fuel listed i μ l L:=VS (ho:=ho) (hd:=hd) (hn:=hn) (hw:=hw) (h:=h)
theorem D7{t:Nat}{b:Bool}(i:Nat)(hg:PIf b (GA P X μr Lr ops Q fuel listed μ ((t,.bool true)::l) L) (GA P X μr Lr ops Q fuel listed μ ((t,.bool false)::l) L))
 (ho:sD ops.toList i=some o:=by exact rfl)
 (h:HW ops l o=some (t,b):=by exact rfl)
 (hb:uL b:=by(fail_if_success (with_reducible show uL true));(fail_if_success (with_reducible show uL false));exact VI _):
 GA P X μr Lr ops Q fuel listed μ l L:=aHh (i:=i) (ho:=ho) (h:=h) (hb:=hb) (hg:=hg)
theorem D8  (h:GQ X Q .normal μ l L)
 (hr:Region.ready .any ops listed=[]:=by kernel_rfl):
 GA P X μr Lr ops Q fuel listed μ l L:=aCe (hr:=hr) (h:=h)
theorem D9  (h:GA P X μr Lr ops Q fuel listed μ l L)
 (hle:MLe μr μ:=by first|exact MLe.refl _|assumption|(focus(repeat(first|assumption|(apply MLe.trans;rotate_left;assumption))));done)
 (hLr:Lr.Sublist L:=by((repeat first|exact aH _|exact aU|refine aK ?_|refine aG ?_);done)):
 G P X ops (QA Q (fun a w=>Sm μr Lr w∧wpAnyH P .any ops Q (Sm μr Lr) fuel listed a w)) [] μ l L:=ZQ (hle:=hle) (hLr:=hLr) (h:=h)
theorem EN{A:Prop}(h:A:=by first|((with_reducible apply aCs);kernel_rfl)|((with_reducible apply uF);kernel_rfl;exact rfl)|((with_reducible apply uE);kernel_rfl;exact rfl;exact rfl)|((with_reducible apply zE);kernel_rfl;(iterate 3 exact rfl))|((with_reducible apply TM);kernel_rfl;(iterate 4 exact rfl))|((with_reducible apply aCr);kernel_rfl;(iterate 5 exact rfl))|((with_reducible apply aAd);exact rfl;(assumption);exact rfl)):A:=h
theorem C1  {f:FuncId}{vs:Array Value}{v:Value}(hd:sC X.n ops l o=some d)(hr:Ent P μ l L o f vs)(hc:∀w μc,MOk μc w→KD μc μ L→qI P f vs w v)(h:G P X ops Q rest μ ((d,v)::l) L):
 G P X ops Q (o::rest) μ l L:=by
 obtain⟨h1,h2,h3⟩:=lT hd;exact oP (hd:=h1) (hn:=h2) (hw:=h3) (hr:=hr) (hc:=hc) (h:=h)
theorem K4{f:FuncId}{vs:Array Value}{v:Value}(hc:∀w μc,MOk μc w→MLe μ μc→qI P f vs w v)(h:G P X ops Q rest μ ((d,v)::l) L)(hd:sC X.n ops l o=some d:=by exact rfl)(hr:Ent P μ l L o f vs:=by exact EN):G P X ops Q (o::rest) μ l L:=C1 hd hr (fun w μc hw a=>hc w μc hw a.le) h
theorem F1(f:FuncId){qs:Array Operand}{ts:Array TypeId}{vs:Array Value}{v:Value}(hd:sC X.n ops l ⟨ds,.call { callee:=.value (.func f),args:=qs,argTypes:=ts },ty,pos,af,gd⟩=some d)(hr:Ent P μ l L ⟨ds,.call { callee:=.value (.func f),args:=qs,argTypes:=ts },ty,pos,af,gd⟩ f vs)(hc:∀w μc,MOk μc w→KD μc μ L→qI P f vs w v)(h:G P X ops Q rest μ ((d,v)::l) L):
 G P X ops Q (⟨ds,.call { callee:=.value (.func f),args:=qs,argTypes:=ts },ty,pos,af,gd⟩::rest) μ l L:=by
 obtain⟨h1,h2,h3⟩:=lT hd;exact oP (hd:=h1) (hn:=h2) (hw:=h3) (hr:=hr) (hc:=hc) (h:=h)
theorem K2(f:FuncId){qs:Array Operand}{ts:Array TypeId}{vs:Array Value}{v:Value}(hc:∀w μc,MOk μc w→MLe μ μc→qI P f vs w v)(h:G P X ops Q rest μ ((d,v)::l) L)(hd:sC X.n ops l ⟨ds,.call { callee:=.value (.func f),args:=qs,argTypes:=ts },ty,pos,af,gd⟩=some d:=by exact rfl)(hr:Ent P μ l L ⟨ds,.call { callee:=.value (.func f),args:=qs,argTypes:=ts },ty,pos,af,gd⟩ f vs:=by exact EN):G P X ops Q (⟨ds,.call { callee:=.value (.func f),args:=qs,argTypes:=ts },ty,pos,af,gd⟩::rest) μ l L:=F1 f hd hr (fun w μc hw a=>hc w μc hw a.le) h
theorem K3(f:FuncId){qs:Array Operand}{ts:Array TypeId}{vs:Array Value}{v:Value}(hc:∀w μc,MOk μc w→KD μc μ L→qI P f vs w v)(h:G P X ops Q rest μ ((d,v)::l) L)(hd:sC X.n ops l ⟨ds,.call { callee:=.value (.func f),args:=qs,argTypes:=ts },ty,pos,af,gd⟩=some d:=by exact rfl)(hr:Ent P μ l L ⟨ds,.call { callee:=.value (.func f),args:=qs,argTypes:=ts },ty,pos,af,gd⟩ f vs:=by exact EN):G P X ops Q (⟨ds,.call { callee:=.value (.func f),args:=qs,argTypes:=ts },ty,pos,af,gd⟩::rest) μ l L:=F1 f hd hr hc h
theorem C2  {f:FuncId}{vs:Array Value}{Post:Mem→Value→Prop}(hd:sC X.n ops l o=some d)(hr:Ent P μ l L o f vs)(hc:∀w,MOk μ w→Calls P f vs w fun e w' =>∃v μ',e=.returned v∧oH w w' μ μ' ∧Post μ' v)(h:∀v μ',MLe μ μ' →Post μ' v→G P X ops Q rest μ' ((d,v)::l) L):
 G P X ops Q (o::rest) μ l L:=by
 obtain⟨h1,h2,h3⟩:=lT hd;exact oQ (hd:=h1) (hn:=h2) (hw:=h3) (hr:=hr) (hc:=hc) (h:=h)
theorem F2(f:FuncId){qs:Array Operand}{ts:Array TypeId}{vs:Array Value}{Post:Mem→Value→Prop}(hd:sC X.n ops l ⟨ds,.call { callee:=.value (.func f),args:=qs,argTypes:=ts },ty,pos,af,gd⟩=some d)(hr:Ent P μ l L ⟨ds,.call { callee:=.value (.func f),args:=qs,argTypes:=ts },ty,pos,af,gd⟩ f vs)(hc:∀w,MOk μ w→Calls P f vs w fun e w' =>∃v μ',e=.returned v∧oH w w' μ μ' ∧Post μ' v)(h:∀v μ',MLe μ μ' →Post μ' v→G P X ops Q rest μ' ((d,v)::l) L):
 G P X ops Q (⟨ds,.call { callee:=.value (.func f),args:=qs,argTypes:=ts },ty,pos,af,gd⟩::rest) μ l L:=by
 obtain⟨h1,h2,h3⟩:=lT hd;exact oQ (hd:=h1) (hn:=h2) (hw:=h3) (hr:=hr) (hc:=hc) (h:=h)
theorem C3  {f:FuncId}{vs:Array Value}{e s n:Nat}{xs:List Value}(hd:sC X.n ops l o=some d)(hr:Ent P μ l L o f vs)(hc:∀w μc,MOk μc w→KD μc μ L→Calls P f vs w (CT w e s n xs))(h:∀v,G P X ops Q rest μ ((d,v)::l) (.inr ⟨v,e,s,n,xs⟩::L)):
 G P X ops Q (o::rest) μ l L:=by
 obtain⟨h1,h2,h3⟩:=lT hd;exact MP (hd:=h1) (hn:=h2) (hw:=h3) (hr:=hr) (hc:=hc) (h:=h)
def iR(A B:Prop):Prop:=A→B
def aAr(_:Nat)(A B:Prop):Prop:=A→B
theorem KW{x y:Code}  :
 iR (GC P X x (Exit.then (y.wp P Q) Q) μ l L) (GC P X (.seq x y) Q μ l L):=fun h=>pT (h:=h)
theorem AV{id:Nat}{ops:List Oper}  :
 iR (G P X ops.toArray Q ops μ l L) (GC P X (.region id ops.toArray false) Q μ l L):=fun h=>jD (h:=h)
theorem RT{ops:Array Oper}  :
 iR (GQ X Q .normal μ l L) (G P X ops Q [] μ l L):=fun h=>rX (h:=h)
theorem GU{y:Code}  :
 iR (GC P X y Q μ l L) (GQ X (Exit.then (y.wp P Q) Q) .normal μ l L):=fun h=>mF (h:=h)
theorem DK{id:Nat}{c:Code}  :
 iR (GC P X c (Exit.inBlock id Q) μ l L) (GC P X (.block id c) Q μ l L):=fun h=>tA (h:=h)
theorem GW{id:Nat}  :
 iR (GQ X Q (.exit id) μ l L) (GC P X (.exit id) Q μ l L):=fun h=>JQ (h:=h)
theorem KX   :
 iR (GQ X Q .ret μ l L) (GC P X .ret Q μ l L):=fun h=>sG (h:=h)
theorem GV   :
 iR (GQ X Q .normal μ l L) (GC P X .skip Q μ l L):=fun h=>rV (h:=h)
theorem uY{K:Act→World→Prop}{i:Nat}  :
 iR (GQ X Q (.exit i) μ l L) (GQ X (Exit.then K Q) (.exit i) μ l L):=fun h=>tY (h:=h)
theorem xG{K:Act→World→Prop}  :
 iR (GQ X Q .ret μ l L) (GQ X (Exit.then K Q) .ret μ l L):=fun h=>mK (h:=h)
theorem uN{i:Nat}  :
 iR (GQ X Q .normal μ l L) (GQ X (Exit.inBlock i Q) (.exit i) μ l L):=fun h=>sF (h:=h)
theorem rR{i:Nat}  :
 iR (GQ X Q .normal μ l L) (GQ X (Exit.inBlock i Q) .normal μ l L):=fun h=>lS (h:=h)
theorem uZ{i:Nat}  :
 iR (GQ X Q .ret μ l L) (GQ X (Exit.inBlock i Q) .ret μ l L):=fun h=>qD (h:=h)
theorem RQ{p q:Prop}  :
 iR (p) (PIf true p q):=fun h=>YE (h:=h)
theorem RR{p q:Prop}  :
 iR (q) (PIf false p q):=fun h=>HJ (h:=h)
theorem GS{b:Bool}{p q:Prop}  :
 iR (PIf b q p) (PIf (!b) p q):=fun h=>aBq (h:=h)
theorem aDe{v:Value}(h:LR P X.n ops l o=some (d,v)):
 iR (G P X ops Q rest μ ((d,v)::l) L) (G P X ops Q (o::rest) μ l L):=fun hg=>g_p (h:=h) (hg:=hg)
theorem RS{c:Operand}{x y:Code}{b:Bool}(hc:ev l c=some (.bool b)):
 iR (PIf b (GC P X x Q μ l L) (GC P X y Q μ l L)) (GC P X (.cond c x y) Q μ l L):=fun h=>vS (hc:=hc) (h:=h)
theorem xQ{c p q:Prop}{_:Decidable c}(hc:c):
 iR (p) (PIf (decide c) p q):=fun h=>rA (hc:=hc) (h:=h)
theorem xR{c p q:Prop}{_:Decidable c}(hc:¬c):
 iR (q) (PIf (decide c) p q):=fun h=>pF (hc:=hc) (h:=h)
theorem KT{b:Bool}{p q:Prop}(hb:b=true):
 iR (p) (PIf b p q):=fun h=>aEx (hb:=hb) (h:=h)
theorem KU{b:Bool}{p q:Prop}(hb:b=false):
 iR (q) (PIf b p q):=fun h=>aEy (hb:=hb) (h:=h)
theorem aEe{r:Int}(h:QS X.n ops l o=some (d,r))(hb: -9223372036854775808≤r∧r≤9223372036854775807):
 iR (G P X ops Q rest μ ((d,.int .i64 r)::l) L) (G P X ops Q (o::rest) μ l L):=fun hg=>ZS (h:=h) (hb:=hb) (hg:=hg)
theorem aEb{t b off:Nat}{y:Blk}{v:Value}(hd:sC X.n ops l o=some d)(h:aB2 l o.op=some (t,b,off))(hb:InB L b y)(hv:ldv P t y.cs off=some v):
 iR (G P X ops Q rest μ ((d,v)::l) L) (G P X ops Q (o::rest) μ l L):=fun hg=>EU (hd:=hd) (h:=h) (hb:=hb) (hv:=hv) (hg:=hg)
theorem aDd{v:Value}(hd:sC X.n ops l o=some d)(hr:Val P μ l L o v):
 iR (G P X ops Q rest μ ((d,v)::l) L) (G P X ops Q (o::rest) μ l L):=fun h=>g_v (hd:=hd) (hr:=hr) (h:=h)
theorem aD9{b off:Nat}{vs:List Value}{L' :List Bk}(hd:SH ops l o=true)(h:stop P l o.op=some (b,off,vs))(h1:KE vs)(hu:UpB L b off vs L'):
 iR (G P X ops Q rest μ l L') (G P X ops Q (o::rest) μ l L):=fun hg=>BV (hd:=hd) (h:=h) (h1:=h1) (hu:=hu) (hg:=hg)
theorem zQ{i j:Nat}(hij:Nat.beq j i=false):
 iR (GQ X Q (.exit j) μ l L) (GQ X (Exit.inBlock i Q) (.exit j) μ l L):=fun h=>EP (hij:=hij) (h:=h)
theorem aEc{t:Nat}{b:Bool}(h:HW ops l o=some (t,b))(hb:uL b):
 iR (PIf b (G P X ops Q (o::rest) μ ((t,.bool true)::l) L) (G P X ops Q (o::rest) μ ((t,.bool false)::l) L)) (G P X ops Q (o::rest) μ l L):=fun hg=>ZP (h:=h) (hb:=hb) (hg:=hg)
theorem aEa{t:TypeId}{cs:List Value}{n:Nat}(hd:sC X.n ops l o=some d)(h:aBx P l o.op=some (t,cs))(hn:vJ cs.length some=some n):
 iR (∀b,G P X ops Q rest μ ((d,.pointer (some ⟨b,0,none⟩))::l) (.inl ⟨b,t,n,idx 0 cs⟩::L)) (G P X ops Q (o::rest) μ l L):=fun hg=>GL (hd:=hd) (h:=h) (hn:=hn) (hg:=hg)
theorem aEd{t:TypeId}{cs:List Value}{n m:Nat}(hd:sC X.n ops l o=some d)(h:aC1 P l o.op=some (t,m,cs))(hn:vJ cs.length some=some n):
 iR (∀b,G P X ops Q rest μ ((d,.slice (some ⟨b,0,none⟩) m m)::l) (.inl ⟨b,t,n,idx 0 cs⟩::L)) (G P X ops Q (o::rest) μ l L):=fun hg=>aFl (hd:=hd) (h:=h) (hn:=hn) (hg:=hg)
theorem aEf{c p q:Prop}{_:Decidable c}:iR ((c→p)∧(¬c→q)) (PIf (decide c) p q):=fun h=>CM h.1 h.2
theorem aHx{b:Bool}{p q:Prop}:iR ((b=true→p)∧(b=false→q)) (PIf b p q):=fun h=>aDl h.1 h.2
theorem KO{A B:Prop}(h:A)
 (f:iR A B:=by first|((with_reducible (first|apply KW|apply AV|apply RT|apply GU|apply DK|apply GW|apply KX|apply GV|apply uY|apply xG|apply uN|apply rR|apply uZ|apply RQ|apply RR|apply GS)))|((with_reducible apply aDe);exact rfl)|((with_reducible apply RS);exact rfl)|((with_reducible apply xQ);(first|omega|with_reducible rfl))|((with_reducible apply xR);(omega))|((with_reducible apply KT);exact rfl)|((with_reducible apply KU);exact rfl)):B:=f h
theorem KZ{A B:Prop}(h:A)
 (f:iR A B:=by first|((with_reducible (first|apply KW|apply AV|apply RT|apply GU|apply DK|apply GW|apply KX|apply GV|apply uY|apply xG|apply uN|apply rR|apply uZ|apply RQ|apply RR|apply GS)))|((with_reducible apply aDe);exact rfl)|((with_reducible apply RS);exact rfl)|((with_reducible apply xQ);(first|omega|with_reducible rfl))|((with_reducible apply xR);(omega))|((with_reducible apply KT);exact rfl)|((with_reducible apply KU);exact rfl)|((with_reducible apply xQ);(omega))|((with_reducible apply xR);(first|omega|with_reducible exact VG _))|((with_reducible apply aEe);exact rfl;omega)|((with_reducible apply aEb);exact rfl;exact rfl;(repeat first|with_reducible exact bT|with_reducible apply cG);exact rfl)|((with_reducible apply aDd);exact rfl;(first|((with_reducible apply WS);exact rfl;exact rfl)|((with_reducible apply WN);exact rfl;exact rfl;(omega))))|((with_reducible apply aD9);exact rfl;exact rfl;(repeat first|with_reducible exact eG|((with_reducible apply dO);(first|exact rfl|assumption)));(repeat first|with_reducible apply pO|with_reducible apply tK);exact rfl;(repeat first|with_reducible exact fL|with_reducible apply dY))|((with_reducible apply aDd);exact rfl;(first|((with_reducible apply GO);exact rfl;exact rfl)|((with_reducible apply NS);(iterate 3 exact rfl);omega)|((with_reducible apply KJ);exact rfl;exact rfl)|((with_reducible apply WS);exact rfl;exact rfl)|((with_reducible apply WR);exact rfl;exact rfl)|((with_reducible apply WN);exact rfl;exact rfl;(omega))|((with_reducible apply NY);(iterate 3 exact rfl);omega)|((with_reducible apply WG);exact rfl;omega)))|((with_reducible apply zQ);exact rfl)|((with_reducible apply aEc);exact rfl;(fail_if_success (with_reducible show uL true));(fail_if_success (with_reducible show uL false));exact VI _)):B:=f h
theorem KB{A B C:Prop}(h1:A)(h2:B)
 (f:iR (A∧B) C:=by with_reducible (first|exact aEf|exact aHx)):C:=f ⟨h1,h2⟩
theorem NB{A:Nat→Prop}{B:Prop}(h:∀b,A b)
 (f:iR (∀b,A b) B:=by first|((with_reducible apply aEa);(iterate 3 exact rfl))|((with_reducible apply aEd);(iterate 3 exact rfl))):B:=f h
def TZ(_:Nat)(B:Prop):Prop:=B
theorem E1{i:Nat}{v:Value}(h:CJ P X.n ops l i=some (d,v))(hk:uH ops listed i=true)(hQ:∀c a w,Q (.panic c) (Act.put a (some d) v) w→Q (.panic c) a w):
 aAr i (GA P X μr Lr ops Q fuel (listed.setIfInBounds i true) μ ((d,v)::l) L) (GA P X μr Lr ops Q (fuel+1) listed μ l L):=fun hg=>aHg (i:=i) (h:=h) (hk:=hk) (hQ:=hQ) (hg:=hg)
theorem E2{i:Nat}{v:Value}(h:zU X.n ops l i=some (d,o))(hk:uH ops listed i=true)(hQ:∀c a w,Q (.panic c) (Act.put a (some d) v) w→Q (.panic c) a w)(hv:Val P μr l Lr o v):
 aAr i (GA P X μr Lr ops Q fuel (listed.setIfInBounds i true) μ ((d,v)::l) L) (GA P X μr Lr ops Q (fuel+1) listed μ l L):=fun hg=>aHf (i:=i) (h:=h) (hk:=hk) (hQ:=hQ) (hv:=hv) (hg:=hg)
theorem DD(i:Nat){A B:Prop}(h:A)
 (f:aAr i A B:=by first|((with_reducible apply E1);exact rfl;kernel_rfl;(exact fun _ _ _ h=>h))|((with_reducible apply E2);exact rfl;kernel_rfl;(exact fun _ _ _ h=>h);(first|((with_reducible apply GO);exact rfl;exact rfl)|((with_reducible apply gT);exact rfl;(repeat first|with_reducible exact bT|with_reducible apply cG);exact rfl)|((with_reducible apply KJ);exact rfl;exact rfl)|((with_reducible apply WR);exact rfl;exact rfl)|((with_reducible apply aAx);exact rfl;exact rfl;(omega);(omega))|((with_reducible apply WN);exact rfl;exact rfl;(omega))|((with_reducible apply IG);exact rfl;omega)))):B:=f h
theorem X1{k:Nat}{p q:Operand}{t e:TypeId}{A:Addr}{len cap n:Nat}{i:Int}(ht:P.underlying t=some (.slice e))(hs:gW P e=some n)(hx0:ev l p=some (.slice (some A) len cap))(hx1:ev l q=some (.int .i64 i))(hi:i=(k:Int))(hk:k<len):
 TZ k (Val P μ l L ⟨ds,.indexAddr t p q,ty,pos,af,gd⟩ (.pointer (some (A.add (k*n))))):=aA2 (k:=k) (ht:=ht) (hs:=hs) (hx0:=hx0) (hx1:=hx1) (hi:=hi) (hk:=hk)
theorem X2{k:Nat}{p q:Operand}{t:TypeId}{s:ByteArray}{i:Int}(ht:P.underlying t=some .string)(hx0:ev l p=some (.string s))(hx1:ev l q=some (.int .i64 i))(hi:i=(k:Int))(hk:k<s.size):
 TZ k (Val P μ l L ⟨ds,.index t p q,ty,pos,af,gd⟩ (.int .u8 (bAt s k))):=CZ (k:=k) (ht:=ht) (hx0:=hx0) (hx1:=hx1) (hi:=hi) (hk:=hk)
theorem U1(k:Nat){B:Prop}(f:TZ k B:=by(with_reducible apply X1);(iterate 4 exact rfl);(first|exact rfl|omega);omega):B:=f
theorem U2(k:Nat){B:Prop}(f:TZ k B:=by(with_reducible apply X2);(iterate 3 exact rfl);(first|exact rfl|omega);omega):B:=f
theorem U3{M B:Prop}(hm:M)(f:M→B:=by intro h;(with_reducible apply qJ);exact rfl;exact rfl;exact h):B:=f hm
theorem U4{M B:Prop}(hm:M)(f:M→B:=by intro h;first|((with_reducible apply NU);(iterate 3 exact rfl);exact h;exact rfl)|((with_reducible apply aA1);(iterate 3 exact rfl);exact h;exact rfl)):B:=f hm
theorem PU{l l' :bG}(h:pN l' l:=by((repeat first|exact eK|refine cZ rfl ?_);done)):pN l' l:=h
theorem PS{L L' :List Bk}(h:Sel L' L:=by((repeat first|exact Sel.nil _|(refine jT ?_ ?_;focus(first|exact jC.refl _|(refine jC.cells ?_;repeat first|exact eK|refine cZ rfl ?_)))|(refine RP ?_ ?_;focus(first|exact jC.refl _|(refine jC.cells ?_;repeat first|exact eK|refine cZ rfl ?_)))|(refine aGf ?_ ?_;focus(first|exact jC.refl _|(refine jC.cells ?_;repeat first|exact eK|refine cZ rfl ?_)))|(refine aGe ?_ ?_;focus(exact jC.refl _)));done)):Sel L' L:=h
theorem CF(f:FuncId){qs:Array Operand}{ts:Array TypeId}(h:G P X ops Q (⟨ds,.call { callee:=.value (.func f),args:=qs,argTypes:=ts },ty,pos,af,gd⟩::rest) μ l L):G P X ops Q (⟨ds,.call { callee:=.value (.func f),args:=qs,argTypes:=ts },ty,pos,af,gd⟩::rest) μ l L:=h
theorem DV{v:Value}
 (k:Nat)
 (h1:zU X.n ops l k=some (d,o):=by exact rfl)
 (h2:uH ops listed k=true:=by kernel_rfl)
 (h3:∀c a w,Q (.panic c) (Act.put a (some d) v) w→Q (.panic c) a w:=by exact fun _ _ _ h=>h)
 (b:Val P μr l Lr o v)
 (c:GA P X μr Lr ops Q fuel (listed.setIfInBounds k true) μ ((d,v)::l) L):
 GA P X μr Lr ops Q (fuel+1) listed μ l L:=aHf (i:=k) (h:=h1) (hk:=h2) (hQ:=h3) (hv:=b) (hg:=c)
theorem D2{v:Value}(k:Nat)(h1:zU X.n ops l k=some (d,o))(b:Val P μr l Lr o v)(c:GA P X μr Lr ops Q fuel (listed.setIfInBounds k true) μ ((d,v)::l) L)(h2:uH ops listed k=true:=by kernel_rfl)(h3:∀c a w,Q (.panic c) (Act.put a (some d) v) w→Q (.panic c) a w:=by exact fun _ _ _ h=>h):GA P X μr Lr ops Q (fuel+1) listed μ l L:=DV k h1 h2 h3 b c
theorem DW{i:Nat}{v:Value}
 (ho:sD ops.toList i=some o:=by exact rfl)
 (hd:o.dst=some d:=by exact rfl)
 (hn:Nat.blt d X.n=true:=by exact rfl)
 (hw:dW ops l o=some true:=by exact rfl)
 (b:Val P μ l L o v)
 (c:GA P X μr Lr ops Q fuel (listed.setIfInBounds i true) μ ((d,v)::l) L):
 dV P X μr Lr ops Q fuel listed i μ l L:=bS (ho:=ho) (hd:=hd) (hn:=hn) (hw:=hw) (hv:=b) (h:=c)
theorem KV{v:Value}
 (hd:sC X.n ops l o=some d:=by exact rfl)
 (b:Val P μ l L o v)
 (c:G P X ops Q rest μ ((d,v)::l) L):
 G P X ops Q (o::rest) μ l L:=g_v (hd:=hd) (hr:=b) (h:=c)
theorem K5{v:Value}(b:Val P μ l L o v)(c:G P X ops Q rest μ ((d,v)::l) L)(hd:sC X.n ops l o=some d:=by exact rfl):G P X ops Q (o::rest) μ l L:=KV hd b c
end
end
end Go.Vcg
namespace Go.Proofs.YtknieidhopbngaaGreat
open Go.RowKit Go.Vcg
attribute [local irreducible] G GC GQ GA dV Calls IntKind.wrap Int.decLt Int.decLe
end Go.Proofs.YtknieidhopbngaaGreat
namespace Go.Vcg
open Go.RowKit
def UC(B:Nat)(t:TypeId)(k:Int)(w:World):Prop:=w.heap[B]? =some (.cells #[.int .i64 k] t (0,0))
section
variable{P:Program}{X:Ctx}{ops:Array Oper}{Q:Exit→Act→World→Prop}{rest:List Oper}{μ:Mem}{l:bG}{L:List Bk}{a:Act}{w:World}{o:Oper}{d:Nat}
theorem UC.of{B:Nat}{t:TypeId}{cs:bG}{k:Int}(h:Bk.at (.inl ⟨B,t,1,cs⟩) w)(hk:lk cs 0=some (.int .i64 k)):UC B t k w:=by
 obtain⟨arr,h1,h2,h3⟩:=h;have h2:arr.size=1:=h2;have h4:=h3 0 _ hk;have:arr= #[.int .i64 k]:=by
  apply gM;intro i;cases i with
  |zero=>rw[h4];rfl
  |succ i=>rw[eV (by omega),eV (by simp)]
 subst this;exact h1
theorem UC.at{B:Nat}{t:TypeId}{k:Int}(h:UC B t k w):Bk.at (.inl ⟨B,t,1,[(0,.int .i64 k)]⟩) w:=by
 refine⟨_,h,rfl,fun i v hv=>?_⟩;cases i with
 |zero=>simp[lk]at hv;simp[hv]
 |succ i=>simp[lk,FM (show(0:Nat)≠i+1 by omega)]at hv
end
end Go.Vcg
namespace Go.Proofs.YtknieidhopbngaaGreat
open Go.Vcg in
abbrev aO:=qI Tryz.prog
end Go.Proofs.YtknieidhopbngaaGreat
