/- Trees of nodes as plain data: how a tree lies in memory. -/
import Derived.Test.YtlllalmkkaolfaaGreatDoorUac
import Derived.Lib.ItoaNum
import Derived.Lib.Join
import Derived.Lib.IndexMore
import Derived.ProofKit
import Derived.OpenShut
import Derived.ShutString
import Derived.ChangeOld
import Derived.Deep.Slices
import Derived.Deep.Fields
import Derived.HandedShaped
import Derived.Deep.OwnRows
import Derived.Laws.IdiomStrings
namespace Go.Proofs.YtlllalmkkaolfaaGreatDoor
open Go.Vcg in
abbrev bC:=CI Tryz.prog
end Go.Proofs.YtlllalmkkaolfaaGreatDoor
set_option maxRecDepth 20000
set_option maxHeartbeats 2000000
namespace Go.Proofs.YtlllalmkkaolfaaGreatDoor
open Go.RowKit Go.Vcg
inductive T where
 |mk (op at' n m:Int) (s:ByteArray) (kids:List T)
namespace T
def op:T→Int|mk o _ _ _ _ _=>o
def at' :T→Int|mk _ a _ _ _ _=>a
def n:T→Int|mk _ _ n _ _ _=>n
def m:T→Int|mk _ _ _ m _ _=>m
def s:T→ByteArray|mk _ _ _ _ s _=>s
def kids:T→List T|mk _ _ _ _ _ k=>k
def zero:T:=mk 0 0 0 0 ⟨#[]⟩ []
theorem aAs{t k:T}{i:Nat}(h:t.kids[i]? =some k):SizeOf.sizeOf k<SizeOf.sizeOf t:=by
 cases t with
 | mk o a n m s ks=>
   have hm:k∈ks:=aB h;have:=List.sizeOf_lt_of_mem hm;simp;omega
def size:T→Nat|mk _ _ _ _ _ ks=>1+ (ks.attach.map fun⟨k,_⟩=>k.size).sum
theorem size_eq(t:T):t.size=1+ (t.kids.map size).sum:=by
 cases t with
 |mk o a n m s ks=>rw[size];simp[kids]
theorem eL{l:List Nat}{x:Nat}(h:x∈l):x≤l.sum:=by
 induction l with
 |nil=>cases h
 | cons y l ih=>
   rcases aR.1 h with rfl|h
   ·simp
   ·have:=ih h;simp;omega
theorem fY{t k:T}{i:Nat}(h:t.kids[i]? =some k):k.size<t.size:=by
 rw[size_eq t];have:=eL (List.mem_map.2 ⟨k,aB h,rfl⟩:k.size∈t.kids.map size);omega
end T
abbrev cO(t:T)(v:Value):List Value:=[.int .i64 t.op,.int .i64 t.at',.int .i64 t.n,.int .i64 t.m,.string t.s,v]
abbrev AN(p:T×Value):List Value:=cO p.1 p.2
inductive KR (μ:Mem):List T→Value→Prop
 |mk (ks:List T) (A:Option Addr) (c:Nat) (vs:Nat→Value) (hcap:ks.length≤c) (hcell:∀i t,ks[i]? =some t→∃a,A=some a∧gF μ (a.add (i*6)) (cO t (vs i)))
    (hone:∀i t,ks[i]? =some t→(vs i).oneCell' =true) (hsub:∀i t,ks[i]? =some t→KR μ t.kids (vs i)):KR μ ks (.slice A ks.length c)
theorem KR.mono{μ μ' :Mem}(hle:MLe μ μ'){ks:List T}{v:Value}(h:KR μ ks v):KR μ' ks v:=by
 induction h with
 | mk ks A c vs hcap hcell hone hsub ih=>
   refine .mk ks A c vs hcap (fun i t hi=>?_) hone ih;obtain⟨a,e,hc⟩:=hcell i t hi;exact⟨a,e,hc.mono hle⟩
theorem KR.nil(μ:Mem)(A:Option Addr)(c:Nat):KR μ [] (.slice A 0 c):=.mk [] A c (fun _=>undef) (aN _) (fun i t h=>by simp at h) (fun i t h=>by simp at h) (fun i t h=>by simp at h)
theorem KR.form{μ:Mem}{ks:List T}{v:Value}(h:KR μ ks v):∃(A:Option Addr) (c:Nat),v=.slice A ks.length c∧ks.length≤c∧∀(i:Nat) (t:T),ks[i]? =some t→∃a u,A=some a∧gF μ (a.add (i*6)) (cO t u)∧u.oneCell' =true∧KR μ t.kids u:=by
 cases h with
 | mk _ A c vs hcap hcell hone hsub=>
   refine⟨A,c,rfl,hcap,fun i t hi=>?_⟩;obtain⟨a,e,hc⟩:=hcell i t hi;exact⟨a,_,e,hc,hone i t hi,hsub i t hi⟩
theorem KR.one{μ:Mem}{ks:List T}{v:Value}(h:KR μ ks v):v.oneCell' =true:=by cases h;rfl
def TV(μ:Mem)(t:T)(v:Value):Prop:=∃u,v=.agg (cO t u).toArray∧KR μ t.kids u
end Go.Proofs.YtlllalmkkaolfaaGreatDoor
namespace Go.Proofs.YtlllalmkkaolfaaGreatDoor.Iq
open Go.Vcg
def isE(op:Int):Bool:=decide (100≤op)&&(decide (op<148)&&(decide (op≠121)&&(decide (op≠122)&&decide (op≠124))))
def isS(op:Int):Bool:=decide (160≤op)&&decide (op<173)
def aSh(sign:UInt8)(op:Int):Bool:=
 if sign=115 then isS op else if sign=112 then decide (op=121)||decide (op=122)else if sign=97 then isE op||decide (op=124)else if sign=98 then isE op||isS op else isE op
def bD:List UInt8→List Int→Bool
 |[],l=>l.isEmpty
 | [c],l=>match l with
   |[]=>false
   |x::l' =>aSh c x&&l'.isEmpty
 | c::d::r,l=>if d=42 then(l.take (l.length-r.length)).all (aSh c)&&bD r (l.drop (l.length-r.length))else match l with
   |[]=>false
   |x::l' =>aSh c x&&bD (d::r) l'
def nU(c:UInt8):Bool:=(decide (97≤c.toNat)&&decide (c.toNat≤122))||((decide (65≤c.toNat)&&decide (c.toNat≤90))||(decide (c.toNat=95)||decide (c.toNat=36)))
def rF(c:UInt8):Bool:=nU c||(decide (48≤c.toNat)&&decide (c.toNat≤57))
def lI:List UInt8→Bool
 |[]=>false
 |c::r=>nU c&&r.all rF
abbrev Fns:=List (Int×Int)
end Go.Proofs.YtlllalmkkaolfaaGreatDoor.Iq
namespace Go.Proofs.YtlllalmkkaolfaaGreatDoor.Ou
open Go
def byS(s:ByteArray):List UInt8:=s.data.toList
theorem aO2{s t:ByteArray}(h:byS s=byS t):s=t:=by
 cases s;cases t;simp only[byS,Array.toList_inj]at h;rw[h]
structure aUz where
 (kind n:Int) (s:ByteArray)
def aUf:List UInt8:=[48,49,50,51,52,53,54,55,56,57,97,98,99,100,101,102]
def q1(c:UInt8):List UInt8:=
 if c=10 then[92,110]else if c=9 then[92,116]else if c=13 then[92,114]else if c=0 then[92,48]
 else if c=34∨c=92 then[92,c]else if c.toNat<32∨126<c.toNat then[92,120,aUf.getD (c.toNat/16) 0,aUf.getD (c.toNat%16) 0]else[c]
end Go.Proofs.YtlllalmkkaolfaaGreatDoor.Ou
namespace Go.Proofs.YtlllalmkkaolfaaGreatDoor.Ou
open Go
def ofB(l:List UInt8):ByteArray:=⟨l.toArray⟩
theorem aO1(l:List UInt8):byS (ofB l)=l:=by simp[byS,ofB]
section
variable(R:aUz→Bool)
def Shaped:Prop:=∀k:aUz,R k=true→(k.kind=0∧k.s=⟨#[]⟩∨k.kind=1∧k.n=0∨k.kind=2∧k.s=⟨#[]⟩)
variable{R}
end
end Go.Proofs.YtlllalmkkaolfaaGreatDoor.Ou
namespace Go.Proofs.YtlllalmkkaolfaaGreatDoor.Iq
open Go Go.Proofs.YtlllalmkkaolfaaGreatDoor.Ou
end Go.Proofs.YtlllalmkkaolfaaGreatDoor.Iq
namespace Go.Proofs.YtlllalmkkaolfaaGreatDoor
open Go.RowKit Go.Vcg Ou
theorem aH3{p:UInt8→Bool}:∀(d:List UInt8) (j:Nat),j< (d.takeWhile p).length→∃c,d[j]? =some c∧p c=true
 |[],j,h=>by simp at h
 | c::r,j,h=>by
   rw[List.takeWhile_cons]at h;by_cases hc:p c=true
   ·rw[if_pos hc]at h;cases j with
    |zero=>exact⟨c,rfl,hc⟩
    |succ j=>exact aH3 r j (by simpa using h)
   ·rw[if_neg hc]at h;simp at h
theorem aH4{p:UInt8→Bool}:∀(d:List UInt8) (c:UInt8),d[(d.takeWhile p).length]? =some c→p c=false
 |[],c,h=>by simp at h
 | x::r,c,h=>by
   rw[List.takeWhile_cons]at h;by_cases hc:p x=true
   ·rw[if_pos hc,bH,bW]at h;exact aH4 r c h
   ·rw[if_neg hc]at h;simp at h;rw[←h];simpa using hc
def mS:List UInt8→List UInt8
 |[]=>[]
 |c::r=>if Iq.nU c=true then c::r.takeWhile Iq.rF else[]
attribute [local irreducible] G GC GQ GA eV Calls IntKind.wrap Int.decLt Int.decLe
theorem XY(x:Int)(c:UInt8)(a:x=c.toNat)(w:World)(μ:Mem)(hμ:MOk μ w):bC 176 #[.int .u8 x] w (.bool (Iq.nU c)):=by
 subst a;have hc:=c.toNat_lt;refine aF Tryz.func176 rfl Tryz.ntmps176 (by simp) hμ ?_;have h0:Iq.nU c=decide ((97≤(c.toNat:Int)∧(c.toNat:Int)≤122)∨(65≤(c.toNat:Int)∧(c.toNat:Int)≤90)∨(c.toNat:Int)=95∨(c.toNat:Int)=36):=by unfold Iq.nU;rw[Bool.eq_iff_iff];simp;omega
 rw[h0];try repeat' (first|refine KZ ?_|(refine KB ?_ ?_<;>intro b))
 all_goals(refine aQ rfl rfl ?_;congr 1;rw[Bool.eq_iff_iff];simp;omega)
end Go.Proofs.YtlllalmkkaolfaaGreatDoor
namespace Go.Vcg
section
open Go.RowKit Go.MapKept
section
variable{P:Program}{w:World}
theorem CJ{f:Field}{x:Value}(e:Bool)(n:Nat)(hc:JF P f=codeOf x):(Instr.checkKey e (n+1) f.type x).run P w=.ok () w:=by
 unfold JF at hc;unfold Instr.checkKey;cases hu:P.underlying f.type with
 |none=>rw[hu]at hc;cases x<;>simp[codeOf]at hc
 | some d=>
   rw[hu]at hc;simp only[Sem.run_bind,run_underlying hu,Result.andThen_ok];cases d<;>cases x<;>simp[codeOf]at hc<;>simp
theorem yQ(e:Bool)(n:Nat)(XS:Array Value):∀(fs:List Field) (k:Nat) (xs:List Value),nJ P k fs (xs.map codeOf)=true→(∀j v,xs[j]? =some v→XS[k+j]? =some v)→
 (forIn fs PUnit.unit fun(f:Field) (_:PUnit)=>(if f.name≠ "_" then(do let y←part f.type XS f.offset;Instr.checkKey e (n+1) f.type y;pure (ForInStep.yield PUnit.unit))else(do pure PUnit.unit;pure (ForInStep.yield PUnit.unit)):Sem (ForInStep PUnit))).run P w=.ok PUnit.unit w
 |[],_,_,_,_=>by simp
 |f::fs,k,[],h,_=>by simp[nJ]at h
 | f::fs,k,x::xs,h1,i=>by
   simp only[aL,nJ,aM,fV]at h1;obtain⟨⟨⟨hn,ho⟩,hc⟩,hr⟩:=h1;have c:f.offset=k:=dD ho;have a:JF P f=codeOf x:=dD hc;have b:f.name≠ "_" :=by simpa using hn
   have hx0:=i 0 x rfl;simp only[bZ]at hx0;have g:pN P f.type=some false:=by
    unfold JF at a;unfold pN;cases hu:P.underlying f.type with
    |none=>rw[hu]at a;cases x<;>simp[codeOf]at a
    |some de=>rw[hu]at a;cases de<;>first|rfl|(cases x<;>simp[codeOf]at a)
   have ih:=yQ e n XS fs (k+1) xs hr (fun j v l=>by rw[show k+1+j=k+ (j+1)by omega];exact i (j+1) v (by simpa using l));simp only[List.forIn_cons,b,ne_eq,not_false_eq_true,if_true,Sem.run_bind,c,uN g hx0,Result.andThen_ok,CJ e n a,Sem.run_pure];exact ih
def pP(P:Program)(t:TypeId)(xs:List Value):Bool:=match P.underlying t with
 |some (.struct fs)=>nJ P 0 fs.toList (xs.map codeOf)&& !(P.stoodInHeld t)
 |_=>false
theorem rY{t:TypeId}{xs:List Value}(e:Bool)(h:pP P t xs=true):(Instr.checkKey e 10000 t (.agg xs.toArray)).run P w=.ok () w:=by
 unfold pP at h;split at h
 ·rename_i fs hu;simp only[aM]at h;unfold Instr.checkKey;simp only[Sem.run_bind,run_underlying hu,Result.andThen_ok];rw[←Array.forIn_toList];have:=yQ (P:=P) (w:=w) e 9998 xs.toArray fs.toList 0 xs h.1 (fun j v a=>by simpa using a);simp at this⊢;rw[this];rfl
 ·cases h
theorem aBw{t:TypeId}{xs ys:List Value}(h:pP P t xs=true)(hv:FG xs ys=true):(Op.equal t (.agg xs.toArray) (.agg ys.toArray)).run P w=.ok (GM xs ys) w:=by
 unfold pP at h;split at h
 ·rename_i fs hu;simp only[aM,fV]at h;have hf:P.fieldsOf t=fs:=by unfold Program.fieldsOf;rw[hu]
  have a:P.underlying t=some (.struct (P.fieldsOf t)):=by rw[hf];exact hu
  exact wF a h.2 (by rw[hf];exact h.1) hv w
 ·cases h
def uY(xs:List Value):List MapEntry→Nat→Option (Option (Nat×Value))
 |[],_=>some none
 | e ::es,i=>match e.key with
   | .agg ⟨ys⟩=>match FG xs ys with
     | true=>match GM xs ys with
       |true=>some (some (i,e.val))
       |false=>uY xs es (i+1)
     |false=>none
   |_=>none
theorem xH{t:TypeId}{xs:List Value}(h:pP P t xs=true):∀{es:List MapEntry} {i:Nat} {r:Option (Nat×Value)},uY xs es i=some r→(Instr.findAsking t (.agg xs.toArray) es i).run P w=.ok r w
 | [],i,r,e=>by unfold uY at e;cases e;simp[Instr.findAsking]
 | ⟨k,v,b⟩::es,i,r,e=>by
   unfold uY at e;split at e
   ·rename_i ys hk;dsimp only at hk;subst hk;split at e
    ·rename_i f;have he:=aBw (w:=w) h f;split at e
     ·rename_i a;cases e;rw[a]at he;have c:(Op.equal t (.agg xs.toArray) (.agg { toList:=ys })).run P w=.ok true w:=he;simp[Instr.findAsking,c]
     ·rename_i a;rw[a]at he;have c:(Op.equal t (.agg xs.toArray) (.agg { toList:=ys })).run P w=.ok false w:=he;have ih:=xH h e;simp[Instr.findAsking,c,ih]
    ·cases e
   ·cases e
theorem uZ{t:TypeId}{xs:List Value}(h:pP P t xs=true){es:List MapEntry}{r:Option (Nat×Value)}(e:uY xs es 0=some r):(Instr.findKey t (.agg xs.toArray) es).run P w=.ok r w:=by
 have hk:=h;unfold pP at hk;split at hk
 ·rename_i fs hu;cases es with
  | nil=>
    unfold uY at e;cases e;simp[Instr.findKey,run_underlying hu,Instr.findNow]
  | cons x es=>
    have:=xH (w:=w) h e;have hn:Instr.findNow (.struct fs) (.agg xs.toArray) (x::es) 0=none:=by unfold Instr.findNow Instr.sameNow;rfl
    simp[Instr.findKey,run_underlying hu,hn,this]
 ·cases hk
theorem JN{t kt et:TypeId}{b ck:Nat}{es:List MapEntry}{xs:List Value}{v:Value}{ok c:Bool}(ht:P.underlying t=some (.map kt et))(a:pP P kt xs=true)
 (hb:w.heap[b]? =some (.map es.toArray ck))(hf:qU P et (uY xs es 0)=some (v,ok)):(Instr.lookup t (.map (some b)) (.agg xs.toArray) c).run P w=.ok (if c then .tuple #[v,.bool ok]else v) w:=by
 cases hr:uY xs es 0 with
 |none=>simp[hr,qU]at hf
 | some r=>
   have h1:=uZ (w:=w) a hr;have h2:=fun e=>rY (w:=w) e a;cases r with
   | none=>
     simp only[hr,qU]at hf;split at hf
     ·rename_i z f;simp only[aW,cV]at hf;obtain⟨rfl,rfl⟩:=hf;simp[Instr.lookup,run_underlying ht,MapKept.run_getObj_map hb,h1,h2,oF f]
     ·cases hf
   | some p=>
     obtain⟨n,x⟩:=p;simp only[hr,qU,aW,cV]at hf;obtain⟨rfl,rfl⟩:=hf;simp[Instr.lookup,run_underlying ht,MapKept.run_getObj_map hb,h1,h2]
theorem DM{t kt et:TypeId}{b ck:Nat}{es:List MapEntry}{xs:List Value}{v:Value}(ht:P.underlying t=some (.map kt et))(a:pP P kt xs=true)
 (hb:w.heap[b]? =some (.map es.toArray ck))(hf:uY xs es 0=some none):(Instr.mapUpdate t (.map (some b)) (.agg xs.toArray) v).run P w=.ok () { w with heap:=w.heap.setIfInBounds b (.map (es++[MapEntry.mk (.agg xs.toArray) v ck]).toArray (ck+1)) }:=by
 have h1:=uZ (w:=w) a hf;have h2:=fun e=>rY (w:=w) e a;simp[Instr.mapUpdate,run_underlying ht,MapKept.run_getObj_map hb,h1,h2,MapKept.run_setObj_map _ hb]
end
end
section
open Go.ChangeShapes Go.WideShapes Go.ChangeAt Go.RowKit Go.Deep
def CT(w:World):Mem:=fun b=>w.heap[b]?
theorem aI8(w:World):MOk (CT w) w:=fun _ _ h=>h
theorem qD.aDs{w:World}{A:Addr}{v:Value}(h:w.cell? A=some v):qD (CT w) A v:=by
 unfold World.cell? at h;split at h
 ·rename_i c t f a;by_cases hs:A.spot.isSome
  ·simp[hs]at h
  ·simp[hs]at h;exact⟨c,t,f,a,by simpa using hs,h⟩
 ·cases h
theorem JG{α:Type}{R:Nat→α→Prop}:∀(n:Nat),(∀i,i<n→∃x,R i x)→∃l:List α,l.length=n∧∀i x,l[i]? =some x→R i x
 |0,_=>⟨[],rfl,fun i x h=>by simp at h⟩
 | n +1,h=>by
   obtain⟨l,hl,hr⟩:=JG n (fun i hi=>h i (by omega));obtain⟨x,b⟩:=h n (by omega);refine⟨l++[x],by simp[hl],fun i y a=>?_⟩;by_cases hi:i<n
   ·rw[aV (by omega)]at a;exact hr i y a
   ·rw[aP (by omega)]at a;have:i-l.length=0:=by have:=(List.getElem?_eq_some_iff.1 a).1;simp at this;omega
    rw[this]at a;simp at a;subst a;have:i=n:=by omega
    subst this;exact b
section
variable{H:Type}{enc:TypeId×Value→H}{P:Program}{W:World}{base:Nat}{spare:Nat→Bool}{held:Bool}
theorem aG2{t:TypeId}{fs:Array Field}{cs:List Value}{xs:List (DataW H×List MemPlace)}{n:Nat}(hone:oneCellFields P fs=true)(hlen:cs.length=fs.size)(e:xs.length=fs.size)
 (hf:∀(i:Nat) (f:Field),fs[i]? =some f→DataW.trod enc P W base spare held n f.type ((cs.drop f.offset).take (P.cellsOf f.type))=xs[i]?)(i:Nat)(f:Field)(hi:fs[i]? =some f):
 ∃c y,cs[i]? =some c∧DataW.trod enc P W base spare held n f.type [c]=some y∧xs[i]? =some y:=by
 have hlt:i<fs.size:=(Array.getElem?_eq_some_iff.1 hi).1;obtain⟨ho,hc⟩:=hone_of hone i f hi;have h:=hf i f hi;rw[ho,hc]at h;have b:i<cs.length:=by omega
 have a:i<xs.length:=by omega
 refine⟨cs[i],xs[i],aA b,?_,aA a⟩;rw[eE b]at h;rw[←aA a,←h];rfl
end
end
end Go.Vcg
namespace Go
variable{H:Type}{enc:TypeId×Value→H}
theorem sB{a:Assume}{C:Checked}{os:Os}{f:FuncId}{fn:Func}{s:ChangeSpec}{conds:List PathCond}{apart fresh handsOn again:Bool}{X:World→Array Value→Prop}
 (u:∀(w w' :World) (args:Array Value),w.heap=w'.heap→X w args→X w' args)
 (own:ownKnob C.prog.godebug=none)(started:os.Started)(noInit:C.prog.inits.idxOf? f=none)(p:C.prog.funcs[f]? =some fn)
 (witness:∃(w:World) (tape:Tape) (i:Input),w.os=os∧(w.forCall tape i).Shaped C.prog∧i.vars=[]∧Input.okWide C.prog (w.forCall tape i) .any w.heap.size f i∧
   ((s.pre enc C.prog fn conds apart (w.forCall tape i).memory i.args∧X (w.forCall tape i).memory i.args)∧sizedMet enc C.prog fn (OpenSpec.ofChange s) apart (w.forCall tape i).memory i.args)∧a.holds C.prog (lone (Frame.enter C.prog f i.args .normal) [] (w.forCall tape i)))
 (contract:∀(W:World) (base:Nat) (args:Array Value) (ds gs:List (DataW H)) (before:List MemPlace),
   (∀(j:Nat) t v,fn.params[j]? =some t→args[j]? =some v→Value.okWide C.prog W .any base t v)→
   DataW.Whole enc C.prog fn.params.toList s.vars apart W args.toList ds gs before→
   (DataW.weightsEach C.prog (fn.params.toList++s.plain.varTypes C.prog) (ds++gs)).all (· ≤reachBytes)=true→X W args→W.ShapedOpen C.prog→
   Calls C.prog f args W fun e W' =>∃v,e=.returned v∧s.post enc C.prog fn apart fresh handsOn again W args v W'):
 ReturnsInHanded a C os f .any (fun w args=>(s.pre enc C.prog fn conds apart w args∧X w args)∧sizedMet enc C.prog fn (OpenSpec.ofChange s) apart w args) (s.post enc C.prog fn apart fresh handsOn again):=by
 refine returnsInHanded_of_calls own started noInit witness ?_;intro w tape i _ h _ o c _;obtain⟨_,_,_,g,hg,_,_,_,_,b⟩:=o;obtain rfl:g=fn:=eC (hg.symm.trans p);obtain⟨⟨⟨ds,gs,before,hw,_⟩,r⟩,q⟩:=c;refine(contract (w.forCall tape i) w.heap.size i.args ds gs before b (DataW.Whole.of_heap (w' :=w.forCall tape i) (by rfl) hw) (q.weights hw) (u _ _ _ (by rfl) r) h).mono fun e W' l=>?_;obtain⟨v,rfl,l⟩:=l;exact ChangeSpec.post_blind l
end Go
namespace Go.Vcg
section
open Go.RowKit
section
variable{P:Program}{X:Ctx}{ops:Array Oper}{Q:Exit→Act→World→Prop}{rest:List Oper}{μ:Mem}{l:bS}{L:List Bk}{a:Act}{w:World}{o:Oper}{d:Nat}
variable{ty:TypeId}{pos:String}{af:Array Edge}{gd:Option (Nat×Bool)}{ds:Option Nat}
theorem sX{t e:TypeId}{z:Value}{bytes:Nat}{p q:Operand}{x y:Int}(N:Nat)(xs:List Value)(hn:Nat.blt d X.n=true)(hw:iF ops l ⟨some d,.makeSlice t p q,ty,pos,af,gd⟩=some true)
 (v:ev l p=some (.int .i64 x))(hq:ev l q=some (.int .i64 y))(u:x=(N:Int))(r:y=(N:Int))(ht:P.underlying t=some (.slice e))(f:(P.info? e).map (fun i=>(i.zero,i.size,i.bytes))=some (some z,1,bytes))(o:z.cells= #[z])
 (c:bytes*N≤281474976710656)(j:N≤9223372036854775807)(g:xs=List.replicate N z)
 (h:∀b,G P X ops Q rest μ ((d,.slice (some ⟨b,0,none⟩) N N)::l) (.inr ⟨.slice (some ⟨b,0,none⟩) N N,e,1,N,xs⟩::L)):G P X ops Q (⟨some d,.makeSlice t p q,ty,pos,af,gd⟩::rest) μ l L:=
 AH hw fun a w hs=>by
  have e1:=hs.eval v;have e2:=hs.eval hq;have e0:(execOp a.eval ⟨some d,.makeSlice t p q,ty,pos,af,gd⟩).run P w=.ok (.value (.slice (some ⟨w.heap.size,0,none⟩) N N)) (w.alloc (.cells (madeCells #[z] N) e)):=by generalize a.eval=ρ at e1 e2;subst u r;simp[execOp,e1,e2,run_make_row' t e z bytes ht f o .i64 .i64 N c j w]
  unfold Oper.wp;rw[e0,Oper.upon_value];have hl:xs.length=N:=by rw[g,List.length_replicate]
  refine h _ _ _ ((hs.aT2 _ (.inr ⟨.slice (some ⟨w.heap.size,0,none⟩) N N,e,1,N,xs⟩) rfl ?_).put hn _);refine⟨by show xs.length=N*1;omega,.inr ⟨w.heap.size,N,madeCells #[z] N,rfl,aN _,heap_alloc_new w _,aC _,j,?_,?_⟩⟩
  ·rw[size_madeCells];exact(mU N).symm
  ·rw[toList_madeCells_one,g,mU];exact aK (by simp)
end
end
section
open Go.RowKit
section
variable{P:Program}{X:Ctx}{ops:Array Oper}{Q:Exit→Act→World→Prop}{μ μr:Mem}{l:bS}{L Lr:List Bk}{fuel i:Nat}{listed:Array Bool}
theorem XM{x y:Bk}:∀{L:List Bk} {i:Nat},iI L i=some x→iI (fT L i y) i=some y
 |[],_,h=>by simp[iI]at h
 |z::r,0,h=>rfl
 |z::r,i+1,h=>XM (i:=i) (by simpa[iI]using h)
section
variable{rest:List Oper}{o:Oper}{d:Nat}{ty:TypeId}{pos:String}{af:Array Edge}{gd:Option (Nat×Bool)}
theorem AX{p q:Operand}{t e:TypeId}{s bytes m n:Nat}{z v:Value}{news xs:List Value}{F:Rw→List Bk}
 (hn:Nat.blt d X.n=true:=by exact rfl)(hw:iF ops l ⟨some d,.call { callee:=.builtin .append,args:= #[p,q],argTypes:= #[t,t] },ty,pos,af,gd⟩=some true:=by exact rfl)
 (g:ev l p=some v:=by exact rfl)(hr:SS L ⟨v,e,s,n,xs⟩ F:=by(repeat with_reducible exact fO))(ht:P.underlying t=some (.slice e):=by exact rfl)(hs:jN P e=some s:=by exact rfl)(f:oL P e=some z:=by exact rfl)(b:z.cells.toList.length=s:=by exact rfl)(c:EI P e=some bytes:=by exact rfl)(a:Nat.blt 0 s=true:=by exact rfl)
 (S:Src μ l L q m news)(A:news.length=m*s)(O:∀u∈news,u.oneCell' =true)(B:(n+m)*bytes≤140737488355328:=by omega)(C:n+m≤140737488355328:=by omega)
 (k:∀v,G P X ops Q rest μ ((d,v)::l) (F ⟨v,e,s,n+m,xs++news⟩)):
 G P X ops Q (⟨some d,.call { callee:=.builtin .append,args:= #[p,q],argTypes:= #[t,t] },ty,pos,af,gd⟩::rest) μ l L:=qA hn hw g hr ht hs f b c a S A O B C k
theorem AI{p q:Operand}{t e:TypeId}{bytes n:Nat}{z v u:Value}{xs:List Value}{F:Rw→List Bk}
 (hn:Nat.blt d X.n=true:=by exact rfl)(hw:iF ops l ⟨some d,.call { callee:=.builtin .append,args:= #[p,q],argTypes:= #[t,t] },ty,pos,af,gd⟩=some true:=by exact rfl)
 (h:ev l p=some v:=by exact rfl)(hr:SS L ⟨v,e,1,n,xs⟩ F:=by(repeat first|with_reducible exact fO|with_reducible apply gD))(ht:P.underlying t=some (.slice e):=by exact rfl)(hs:jN P e=some 1:=by exact rfl)(c:oL P e=some z:=by exact rfl)(a:z.cells.toList.length=1:=by exact rfl)(b:EI P e=some bytes:=by exact rfl)
 (S:Src μ l L q 1 [u]:=by(with_reducible apply kB);exact rfl;(repeat first|with_reducible exact fW|with_reducible apply pQ);exact rfl)(O:u.oneCell' =true:=by exact rfl)(B:(n+1)*bytes≤140737488355328:=by omega)(C:n+1≤140737488355328:=by omega)
 (k:∀g cap,n+1≤cap→G P X ops Q rest μ ((d,.slice (some ⟨g,0,none⟩) (n+1) cap)::l) (F ⟨.slice (some ⟨g,0,none⟩) (n+1) cap,e,1,n+1,xs++[u]⟩)):
 G P X ops Q (⟨some d,.call { callee:=.builtin .append,args:= #[p,q],argTypes:= #[t,t] },ty,pos,af,gd⟩::rest) μ l L:=
 qA hn hw h hr ht hs c a b rfl S rfl (fun x f=>by rw[aJ.1 f];exact O) B C fun v' =>by obtain⟨i,h1,h2⟩:=hr;rw[h2];refine mP i (XM h1) (by omega) fun g cap hv hc=>?_;subst hv;have:=k g cap hc;rwa[h2]at this
end
end
end
section
open Go.RowKit
def xP(B:Nat)(t:TypeId)(k:Int)(w:World):Prop:=w.heap[B]? =some (.cells #[.int .i64 k] t (0,0))
structure aAd (B:Nat) (w w' :World) (μ μ' :Mem):Prop where
 os:w'.os=w.os
 tape:w'.tape=w.tape
 output:w'.output=w.output
 size:w.heap.size≤w'.heap.size
 block:∀b,b<w.heap.size→b≠B→w'.heap[b]? =w.heap[b]?
 le:MLe μ μ'
 ok:MOk μ' w'
 fresh:∀b,b<w.heap.size→μ b=none→μ' b=none
section
variable{P:Program}{X:Ctx}{ops:Array Oper}{Q:Exit→Act→World→Prop}{rest:List Oper}{μ:Mem}{l:bS}{L:List Bk}{a:Act}{w:World}{o:Oper}{d:Nat}
theorem aDu{x y:Bk}:∀{L:List Bk} {i j:Nat},L.Pairwise (fun x y=>∀b,Bk.id x=some b→Bk.id y≠some b)→iI L i=some x→iI L j=some y→j≠i→∀b,Bk.id x=some b→Bk.id y≠some b
 |[],_,_,_,h,_,_=>by simp[iI]at h
 |z::r,0,0,_,_,_,h=>absurd rfl h
 | z::r,0,j+1,e,c,a,_=>by simp[iI]at c;subst c;exact(List.pairwise_cons.1 e).1 _ (fB a)
 | z::r,i+1,0,e,c,a,_=>by simp[iI]at a;subst a;intro b hb f;exact(List.pairwise_cons.1 e).1 _ (fB c) b f hb
 |z::r,i+1,j+1,e,c,a,h=>aDu (List.pairwise_cons.1 e).2 (by simpa[iI]using c) (by simpa[iI]using a) (by omega)
theorem xP.of{B:Nat}{t:TypeId}{cs:bS}{k:Int}(h:Bk.at (.inl ⟨B,t,1,cs⟩) w)(hk:lk cs 0=some (.int .i64 k)):xP B t k w:=by
 obtain⟨arr,h1,h2,h3⟩:=h;have h2:arr.size=1:=h2;have h4:=h3 0 _ hk;have:arr= #[.int .i64 k]:=by
  apply jJ;intro i;cases i with
  |zero=>rw[h4];rfl
  |succ i=>rw[gZ (by omega),gZ (by simp)]
 subst this;exact h1
theorem xP.at{B:Nat}{t:TypeId}{k:Int}(h:xP B t k w):Bk.at (.inl ⟨B,t,1,[(0,.int .i64 k)]⟩) w:=by
 refine⟨_,h,rfl,fun i v hv=>?_⟩;cases i with
 |zero=>simp[lk]at hv;simp[hv]
 |succ i=>simp[lk,OT (show(0:Nat)≠i+1 by omega)]at hv
theorem St.aUi(h:St X μ l L a w){i B:Nat}{t:TypeId}{cs:bS}{k:Int}{w' :World}{μ' :Mem}(hi:iI L i=some (.inl ⟨B,t,1,cs⟩))(hg:aAd B w w' μ μ')(hk:xP B t k w'):
 St X μ' l (fT L i (.inl ⟨B,t,1,[(0,.int .i64 k)]⟩)) a w' :=by
 have hlt:∀x∈L,∀b,Bk.id x=some b→b<w.heap.size:=fun x c b hb=>Bk.lt (h.own x c) hb;have j:=hlt _ (fB hi) B rfl;have h2:=h.upd hi hg.os hg.tape hg.output hg.size (fun b hb hne=>hg.block b hb (fun e=>hne (by rw[e];rfl))) hk.at (y:=.inl ⟨B,t,1,[(0,.int .i64 k)]⟩) (fun b hb=>.inl hb);refine⟨h2.size,h2.defers.mono hg.le,h2.slots,h2.gX,hg.ok,h.from0.trans hg.le,fun b hb hm h0=>hg.fresh b (eU hb h.gX.size) (h.fresh b hb hm h0),h2.own,fun x c b hb=>?_,h2.new,h2.diff⟩;have g:b<w.heap.size:=by
  rcases zR c with rfl|f
  ·have:B=b:=eC hb;omega
  ·exact hlt x f b hb
 exact hg.fresh b g (h2.priv x c b hb)
theorem RO{f:FuncId}{vs:Array Value}{Post:Mem→Value→Int→Prop}(i:Nat){B:Nat}{t:TypeId}{cs:bS}{k:Int}(hd:o.dst=some d)(hn:Nat.blt d X.n=true)(hw:iF ops l o=some true)(hr:Ent P μ l L o f vs)
 (hi:iI L i=some (.inl ⟨B,t,1,cs⟩))(hk:lk cs 0=some (.int .i64 k))
 (hc:∀w,MOk μ w→xP B t k w→μ B=none→Calls P f vs w fun e w' =>∃v μ' k',e=.returned v∧aAd B w w' μ μ' ∧xP B t k' w' ∧Post μ' v k')
 (h:∀v μ' k',MLe μ μ' →Post μ' v k' →G P X ops Q rest μ' ((d,v)::l) (fT L i (.inl ⟨B,t,1,[(0,.int .i64 k')]⟩))):G P X ops Q (o::rest) μ l L:=
 AH hw fun a w hs=>by
  unfold Oper.wp;rw[hr a w hs.rd,Oper.upon_enter];refine(hc w hs.mem (xP.of (hs.own _ (fB hi)) hk) (hs.priv _ (fB hi) B rfl)).mono fun e w' he=>?_;obtain⟨v,μ',k',rfl,hg,b,c⟩:=he;show wpList P ops Q rest (a.put o.dst v) w'
  rw[hd];exact h v μ' k' hg.le c _ _ ((hs.aUi hi hg b).put hn _)
theorem ZZ{f:FuncId}{fn:Func}{c:Code}{args:List Value}{n:Nat}{R:Ending→World→Prop}{B:Nat}{t:TypeId}{k:Int}(hf:P.funcs[f]? =some fn)(hb:fn.body=some c)(hn:fn.ntmps=n)(g:args.length≤n)
 (hμ:MOk μ w)(i:xP B t k w)(a:μ B=none)(h:GC P ⟨w,μ,[B],n⟩ c (bodyPost P fn R) μ (idx 0 args) [.inl ⟨B,t,1,[(0,.int .i64 k)]⟩]):Calls P f args.toArray w R:=by
 refine calls_of_wp hf hb (h _ _ ⟨?_,Marks.nil,fun t v hv=>?_,aAc.refl _ _,hμ,MLe.refl _,fun _ _ _ h=>h,?_,?_,?_,?_⟩)
 ·simp[hn];omega
 ·obtain⟨_,h2⟩:=zU _ _ _ _ hv;have hlt:t<args.length:=by have:=(List.getElem?_eq_some_iff.1 h2).1;simpa using this
  simp only[dK]at h2;rw[kG (by simpa using hlt)];simpa using h2
 ·intro x e;rcases aJ.1 e with rfl
  exact i.at
 ·intro x e b hb;rcases aJ.1 e with rfl
  cases hb;exact a
 ·intro x e b hb;rcases aJ.1 e with rfl
  cases hb;exact .inl (by simp)
 ·exact List.pairwise_singleton _ _
theorem aIq{fn:Func}{n:Nat}{r:ResultVar}{v:Value}{μ0:Mem}{Post:Mem→Value→Int→Prop}(i:Nat){B:Nat}{t:TypeId}{cs:bS}{k:Int}(hr:fn.results= #[r])(h:RV P μ l L r v)(hi:iI L i=some (.inl ⟨B,t,1,cs⟩))(hk:lk cs 0=some (.int .i64 k))
 (p:∀μ',MLe μ μ' →(∀j x,iI L j=some x→j≠i→Bk.sh x μ')→Post μ' v k):
 GQ ⟨w,μ0,[B],n⟩ (bodyPost P fn (fun e w' =>∃v μ' k',e=.returned v∧aAd B w w' μ0 μ' ∧xP B t k' w' ∧Post μ' v k')) .ret μ l L:=fun a w' hs=>by
 have c:∃μ',aAd B w w' μ0 μ' ∧MLe μ μ' ∧∀x∈L,Bk.id x≠some B→Bk.sh x μ' :=by
  refine⟨fun b=>if b<w.heap.size then μ0 b else w'.heap[b]?,⟨hs.gX.os,hs.gX.tape,hs.gX.output,hs.gX.size,fun b hb hne=>hs.gX.block b hb (by simpa using hne),fun b o e=>?_,fun b o e=>?_,fun b hb h0=>by simp[hb,h0]⟩,fun b o e=>?_,fun x f hid=>?_⟩
  ·by_cases hb:b<w.heap.size
   ·simp[hb,e]
   ·simp[hb];exact hs.mem b o (hs.from0 b o e)
  ·by_cases hb:b<w.heap.size
   ·simp[hb]at e;exact hs.mem b o (hs.from0 b o e)
   ·simp[hb]at e;exact e
  ·by_cases hb:b<w.heap.size
   ·simp only[hb,if_true];cases h0:μ0 b with
    | none=>
      by_cases g:b=B
      ·rw[g,hs.priv _ (fB hi) B rfl]at e;cases e
      ·rw[hs.fresh b hb (by simpa using g) h0]at e;cases e
    |some o' =>have:=hs.from0 b o' h0;rw[this]at e;exact e
   ·simp[hb];exact hs.mem b o e
  ·refine Bk.LR (hs.own x f) (fun b o hb ho=>?_);have:¬b<w.heap.size:=by
    rcases hs.new x f b hb with h3|h3
    ·have:b=B:=by simpa using h3
     exact absurd (by rw[hb,this]) hid
    ·simpa using h3
   simp[this,ho]
 obtain⟨μ',hg,hle,hL⟩:=c;exact⟨hs.defers.none (fun D=>by simp only[List.count_cons,List.count_nil];split<;>omega),v,results1 hr h hs.rd,v,μ',k,rfl,hg,xP.of (hs.own _ (fB hi)) hk,p μ' hle (fun j x f q=>hL x (fB f) (aDu hs.diff hi f q B rfl))⟩
end
end
end Go.Vcg
namespace Go.Proofs.YtlllalmkkaolfaaGreatDoor
section
open Go.RowKit Go.Vcg
attribute [local irreducible] G GC GQ GA eV Calls IntKind.wrap Int.decLt Int.decLe
theorem SC(p:T×Value):(AN p).length=6:=rfl
def EZ(ps:List (T×Value)):Nat:=(ps.map fun p=>p.1.size).sum
def Kids(μ:Mem)(ps:List (T×Value)):Prop:=∀p∈ps,KR μ p.1.kids p.2
theorem Kids.mono{μ μ' :Mem}{ps:List (T×Value)}(h:Kids μ ps)(hle:MLe μ μ'):Kids μ' ps:=fun p a=>(h p a).mono hle
theorem Kids.one{μ:Mem}{ps:List (T×Value)}(h:Kids μ ps):∀u∈ps.flatMap AN,u.oneCell' =true:=by
 intro u hu;obtain⟨p,a,hu⟩:=List.mem_flatMap.1 hu;simp at hu;rcases hu with rfl|rfl|rfl|rfl|rfl|rfl
 all_goals first|rfl|exact(h p a).one
theorem KR.pY{μ:Mem}{A:Option Addr}{n c:Nat}{ps:List (T×Value)}(h:Sl AN 6 μ A n ps)(hc:n≤c)(hk:Kids μ ps):KR μ (ps.map (·.1)) (.slice A n c):=by
 have hn:=h.1;subst hn
 have :KR μ (ps.map (·.1)) (.slice A (ps.map (·.1)).length c):=by
  refine .mk _ A c (fun i=>match ps[i]? with|some p=>p.2|none=>undef) (by simpa using hc) (fun i t hi=>?_) (fun i t hi=>?_) (fun i t hi=>?_);all_goals
   rw[aX]at hi;cases b:ps[i]? with
   |none=>simp[b]at hi
   | some p=>
     simp[b]at hi;subst hi;first
      |(obtain⟨a,e,f⟩:=h.2 (by have:=(List.getElem?_eq_some_iff.1 b).1;omega);exact⟨a,e,f i p b⟩)
      |exact(hk p (aB b)).one
      |exact hk p (aB b)
 simpa using this
theorem TF(a b:List (T×Value)):EZ (a++b)=EZ a+EZ b:=by simp[EZ]
theorem TG(o a n m:Int)(s:ByteArray)(ps:List (T×Value)):(T.mk o a n m s (ps.map (·.1))).size=1+EZ ps:=by
 rw[T.size_eq];simp only[T.kids,List.map_map];rfl
def lO(x:Int):Prop:= -9223372036854775808≤x∧x≤9223372036854775807
inductive Ri:T→Prop
 |mk {t:T} (h1:lO t.op) (h3:lO t.n) (h4:lO t.m) (hk:∀k∈t.kids,Ri k):Ri t
inductive Sh:T→Prop
 |mk {t:T} (h:t.s.size≤4000) (h1:lO t.op) (h3:lO t.n) (h4:lO t.m) (hk:∀k∈t.kids,Sh k):Sh t
theorem Ri.kid{t k:T}(h:Ri t)(hk:k∈t.kids):Ri k:=by
 cases h with
 |mk _ _ _ h=>exact h k hk
theorem aIa(s:ByteArray):(s.extract 0 (min s.size 200)).size≤4000:=by
 rw[ByteArray.size_extract];omega
theorem aId{t:T}{ps:List (T×Value)}(h:Ri t→∀p∈ps,Sh p.1):Ri t→Sh (T.mk t.op t.at' t.n t.m (t.s.extract 0 (min t.s.size 200)) (ps.map (·.1))):=fun hr=>by
 have b:=h hr;cases hr with
 | mk h1 h3 h4 _=>
   refine .mk (aIa t.s) h1 h3 h4 fun k hk=>?_;obtain⟨p,a,rfl⟩:=List.mem_map.1 hk;exact b p a
def aPj(t0:T)(k:Nat)(μ:Mem)(v:Value)(k' :Int):Prop:=∃(t:T) (j:Nat),k' =(j:Int)∧TV μ t v∧t.size+j≤k+1∧(Ri t0→Sh t)
theorem aLm:∀(deep:Nat),deep≤260→∀(t:T) (v:Value) (w:World) (μ:Mem) (B k:Nat),MOk μ w→TV μ t v→μ B=none→xP B 3 k w→k≤1500→
 Calls Tryz.prog 20 #[v,.int .i64 deep,.pointer (some ⟨B,0,none⟩)] w fun e w' =>∃v μ' k',e=.returned v∧aAd B w w' μ μ' ∧xP B 3 k' w' ∧aPj t k μ' v k' :=by
 intro deep;induction deep using Nat.strongRecOn with
 | _ deep ih=>
   intro hd t v w μ B k hμ ht hB hi hk;obtain⟨u,rfl,aj⟩:=ht;obtain⟨A,c,rfl,av,aa⟩:=aj.form;refine ZZ Tryz.func20 rfl Tryz.ntmps20 (by simp) hμ hi hB ?_;try repeat' (first|refine KZ ?_|refine NB fun b=>?_)
   rename_i bn;refine cD (ι:=Nat×Nat×Value×Mem×List (T×Value)) (fun i=>i.1≤t.kids.length∧i.2.2.2.2.length=i.1∧MLe μ i.2.2.2.1∧Kids i.2.2.2.1 i.2.2.2.2∧EZ i.2.2.2.2+i.2.1≤k∧i.1+i.2.1≤k∧(Ri t→∀p∈i.2.2.2.2,Sh p.1)) (fun i=>t.kids.length-i.1) (fun i=>i.2.2.2.1) (fun i=>[(8,.int .i64 i.1),(7,i.2.2.1),(6,.pointer (some ⟨b,0,none⟩)),(3,.pointer (some ⟨bn,0,none⟩)),(1,.int .i64 deep),(2,.pointer (some ⟨B,0,none⟩))]) (fun i=>[.inr ⟨i.2.2.1,24,6,i.1,i.2.2.2.2.flatMap AN⟩,.inl ⟨b,24,6,idx 0 [.int .i64 0,.int .i64 0,.int .i64 0,.int .i64 0,.string ⟨#[]⟩,.slice none 0 0]⟩,.inl ⟨bn,24,6,idx 0 (cO t (.slice A t.kids.length c))⟩,.inl ⟨B,3,1,[(0,.int .i64 i.2.1)]⟩]) (0,k,.slice none 0 0,μ,[]) ⟨by simp,rfl,MLe.refl _,fun p l=>(by cases l),by simp[EZ],by simp,fun _ p l=>(by cases l)⟩ (fun a w hs=>(hs.xY 24 6).sub PU (by repeat exact bQ _)) ?_;rintro⟨i,kk,v,μ1,ps⟩ ⟨ak,q,hle,f,ag,al,o⟩;dsimp only at ak q hle f ag al o⊢;refine gT 0 rfl ?_;rintro A1 c1 rfl y;by_cases hlt:i<t.kids.length
   ·obtain⟨ad,x,rfl,ah,ho,ai⟩:=aa i _ (aA hlt);have hm:=ah.mono hle;by_cases aq:0<deep
    ·have e:((deep:Int)-1)=((deep-1:Nat):Int):=by omega
     try repeat' (first|refine KO ?_|((with_reducible apply RO 3);(iterate 3 exact rfl);exact EN;exact rfl;exact rfl;(intro w2 af an ao;(have ae:=ih (deep-1) (by omega) (by omega) _ _ w2 _ B (kk-1) af ⟨x,rfl,ai.mono hle⟩ ao (by(have e2:((kk-1:Nat):Int)=(kk:Int)-1:=by omega);rw[e2];exact an) (by omega));rw[←e]at ae;exact ae);(rintro v2 μ2 k2 r ⟨t2,j,rfl,⟨u2,rfl,ab⟩,ap,z⟩;(have au:=ab.one);dsimp only[fT]))|(((with_reducible apply qA);(iterate 3 exact rfl);(repeat first|with_reducible exact fO|with_reducible apply gD);(iterate 6 exact rfl);(((with_reducible apply kB);exact rfl;(repeat with_reducible exact fW);exact rfl));(exact rfl);((exact gI (by(repeat first|with_reducible exact fZ|((with_reducible apply eW);(first|exact rfl|assumption))))));omega;omega;intro v))|(refine KV (b:=by first|exact U1 i|exact U4 hm) (c:=?_))|refine KZ ?_|refine NB fun b=>?_|(refine KB ?_ ?_<;>intro l))
     ·have ar:=T.size_eq t2;refine KL (i+1,j,v,μ2,ps++[(t2,u2)]) ⟨by dsimp only;omega,by simp[q],hle.trans r,?_,?_,by dsimp only;omega,fun hr p l=>(List.mem_append.1 l).elim (fun h=>o hr p h) (fun h=>by rw[aJ.1 h];exact z (hr.kid (lZ hlt)))⟩ (by dsimp only;omega) rfl PU ?_
      ·intro p l;rcases List.mem_append.1 l with l|l
       ·exact(f p l).mono r
       ·simp at l;subst l;exact ab
      ·dsimp only;have:EZ [(t2,u2)]=t2.size:=by simp[EZ]
       rw[TF];omega
      ·dsimp only;rw[cZ];exact(by repeat first|exact bQ _|refine cP ?_)
     ·try repeat' (first|refine KO ?_|(refine KV (b:=by(((with_reducible apply KY (min t.s.size 200));(iterate 3 exact rfl);(focus(split<;>omega));omega))) (c:=?_))|refine KZ ?_)
      refine aIq 3 rfl (RG 1 rfl rfl rfl rfl rfl) rfl rfl (fun μ' g hL=>⟨T.mk t.op t.at' t.n t.m (t.s.extract 0 (min t.s.size 200)) (ps.map (·.1)),kk,rfl,⟨.slice A1 i c1,rfl,?_⟩,?_,aId o⟩)
      ·exact KR.pY (fK (enc:=AN) (xs:=ps) (hL 0 _ rfl (by decide)) q (by simp) rfl) y.cap (f.mono g)
      ·rw[TG];omega
    ·try repeat' (first|refine KO ?_|(refine KV (b:=by(((with_reducible apply KY (min t.s.size 200));(iterate 3 exact rfl);(focus(split<;>omega));omega))) (c:=?_))|refine KZ ?_)
     refine aIq 3 rfl (RG 1 rfl rfl rfl rfl rfl) rfl rfl (fun μ' g hL=>⟨T.mk t.op t.at' t.n t.m (t.s.extract 0 (min t.s.size 200)) (ps.map (·.1)),kk,rfl,⟨.slice A1 i c1,rfl,?_⟩,?_,aId o⟩)
     ·exact KR.pY (fK (enc:=AN) (xs:=ps) (hL 0 _ rfl (by decide)) q (by simp) rfl) y.cap (f.mono g)
     ·rw[TG];omega
   ·try repeat' (first|refine KO ?_|(refine KV (b:=by(((with_reducible apply KY (min t.s.size 200));(iterate 3 exact rfl);(focus(split<;>omega));omega))) (c:=?_))|refine KZ ?_)
    refine aIq 3 rfl (RG 1 rfl rfl rfl rfl rfl) rfl rfl (fun μ' g hL=>⟨T.mk t.op t.at' t.n t.m (t.s.extract 0 (min t.s.size 200)) (ps.map (·.1)),kk,rfl,⟨.slice A1 i c1,rfl,?_⟩,?_,aId o⟩)
    ·exact KR.pY (fK (enc:=AN) (xs:=ps) (hL 0 _ rfl (by decide)) q (by simp) rfl) y.cap (f.mono g)
    ·rw[TG];omega
def aL3(t0:T)(μ:Mem)(v:Value):Prop:=∃t:T,TV μ t v∧t.size≤1501∧(Ri t0→Sh t)
theorem aG3(t:T)(v:Value)(w:World)(μ:Mem)(hμ:MOk μ w)(ht:TV μ t v):
 Calls Tryz.prog 7 #[v] w fun e w' =>∃v μ',e=.returned v∧vI w w' μ μ' ∧aL3 t μ' v:=by
 obtain⟨u,rfl,g⟩:=ht;obtain⟨A,c,rfl,y,r⟩:=g.form;refine aF Tryz.func7 rfl Tryz.ntmps7 (by simp) hμ ?_;try repeat' (first|refine KZ ?_|((with_reducible apply RO 0);(iterate 3 exact rfl);exact EN;exact rfl;exact rfl;(intro w2 i l o;exact aLm 260 (by decide) _ _ w2 _ _ 1500 i ⟨_,rfl,g⟩ o l (by decide));(rintro v2 μ2 k2 q ⟨t2,j,rfl,⟨u2,rfl,h⟩,p,a⟩;have x:=h.one;dsimp only[fT]))|refine NB fun b=>?_)
 exact sC rfl (RG 1 rfl rfl rfl rfl rfl) (fun μ' f hL=>⟨t2,⟨u2,rfl,h.mono f⟩,by omega,a⟩)
end
section
open Go.ChangeShapes Go.WideShapes Go.ChangeAt Go.RowKit Go.Deep Go.Vcg
section
variable{H:Type}{enc:TypeId×Value→H}{W:World}
theorem aHo{n:Int}(h:(Lit.int .i64 n).wf=true):lO n:=by
 unfold lO;unfold Lit.wf at h;have h1:(IntKind.i64).min= -9223372036854775808:=by decide
 have h2:(IntKind.i64).max=9223372036854775807:=by decide
 simp only[h1,h2,aM,decide_eq_true_eq]at h;exact h
theorem aBj:∀(fuel:Nat) {cs:List Value} {x:DataW H×List MemPlace},DataW.trod enc Tryz.prog W 0 (fun _=>true) true fuel 24 cs=some x→∃(t:T) (u:Value),cs=cO t u∧KR (CT W) t.kids u∧Ri t:=by
 intro fuel;induction fuel using Nat.strongRecOn with
 | _ fuel ih=>
   intro cs x h;obtain⟨xs,n,ab,hx,hlen,o,hf⟩:=DataW.trod_struct Tryz.underlying24 h;have hl:cs.length=6:=hlen.trans (by kernel_rfl);have fa:=aG2 (t:=24) (by kernel_rfl) (by rw[hl];rfl) o hf;obtain⟨c0,y0,e0,t0,g0⟩:=fa 0 _ rfl;obtain⟨c1,y1,e1,t1,g1⟩:=fa 1 _ rfl;obtain⟨c2,y2,e2,t2,g2⟩:=fa 2 _ rfl;obtain⟨c3,y3,e3,t3,g3⟩:=fa 3 _ rfl;obtain⟨c4,y4,e4,t4,g4⟩:=fa 4 _ rfl;obtain⟨c5,y5,e5,t5,g5⟩:=fa 5 _ rfl;obtain⟨a0,z0,u0,r0⟩:=DataW.trod_int Tryz.underlying3 t0;obtain⟨a1,z1,u1,r1⟩:=DataW.trod_int Tryz.underlying3 t1;obtain⟨a2,z2,u2,r2⟩:=DataW.trod_int Tryz.underlying3 t2;obtain⟨a3,z3,u3,r3⟩:=DataW.trod_int Tryz.underlying3 t3;obtain⟨a4,z4,u4,_⟩:=DataW.trod_string Tryz.underlying9 t4;simp only[jB,and_true]at z0 z1 z2 z3 z4;subst z0 z1 z2 z3 z4;have ae:cs=[.int .i64 a0,.int .i64 a1,.int .i64 a2,.int .i64 a3,.string a4,c5]:=by
    match cs,hl with
    | [_,_,_,_,_,_],_=>
      simp at e0 e1 e2 e3 e4 e5;simp[e0,e1,e2,e3,e4,e5]
   have key:∃ks:List T,KR (CT W) ks c5∧∀k∈ks,Ri k:=by
    rcases DataW.trod_slice Tryz.underlying22 t5 with⟨h0,_⟩|⟨a,len,cap,elems,rest,k,hk,h0,_,hb,hle,hm,r,ad,_⟩
    ·simp only[jB,and_true]at h0;subst h0;exact⟨[],KR.nil _ _ _,fun k hk=>by cases hk⟩
    ·simp only[jB,and_true]at h0;subst h0;have hex:∀i,i<len→∃y:T×Value,gF (CT W) (a.add (i*6)) (cO y.1 y.2)∧KR (CT W) y.1.kids y.2∧Ri y.1:=fun i hi=>by
      have he:=ad i hi;rw[aA (show i<elems.length by omega)]at he;obtain⟨cs',hc,p⟩:=Option.bind_eq_some_iff.1 he;obtain⟨t,u,rfl,aa,f⟩:=ih k (by omega) p;refine⟨(t,u),fun j v hv=>?_,aa,f⟩;obtain⟨_,af,g⟩:=World.cells?_some hc;have hs:Tryz.prog.cellsOf 24=6:=by kernel_rfl
      rw[hs]at g af;have hj:j<6:=by have:=(List.getElem?_eq_some_iff.1 hv).1;simpa using this
      have:=g j hj;rw[hv]at this;exact qD.aDs this
     obtain⟨l,w,c⟩:=JG len hex;refine⟨l.map (·.1),?_,fun q hq=>by
      obtain⟨y,b,rfl⟩:=List.mem_map.1 hq;obtain⟨i,hi⟩:=List.mem_iff_getElem?.1 b;exact(c i y hi).2.2⟩
     have e:len=(l.map (·.1)).length:=by simp[w]
     rw[e];refine .mk _ (some a) cap (fun i=>match l[i]? with|some y=>y.2|none=>undef) (by rw[←e];exact hle) (fun i t hi=>?_) (fun i t hi=>?_) (fun i t hi=>?_)
     ·rw[aX]at hi;cases b:l[i]? with
      |none=>rw[b]at hi;cases hi
      | some y=>
        rw[b]at hi;cases hi;exact⟨a,rfl,(c i y b).1⟩
     ·rw[aX]at hi;cases b:l[i]? with
      |none=>rw[b]at hi;cases hi
      |some y=>simp only;exact(c i y b).2.1.one
     ·rw[aX]at hi;cases b:l[i]? with
      |none=>rw[b]at hi;cases hi
      | some y=>
        rw[b]at hi;cases hi;exact(c i y b).2.1
   obtain⟨ks,z,f⟩:=key;exact⟨.mk a0 a1 a2 a3 a4 ks,c5,ae,z,.mk (aHo r0) (aHo r2) (aHo r3) f⟩
theorem aBg{r:Reach}{b0:Nat}{v:Value}{d:DataW H}{p:List MemPlace}(hv:Value.okWide Tryz.prog W r b0 24 v)(h:DataW.Trod enc Tryz.prog W 0 (fun _=>true) true 24 v d p):∃t:T,TV (CT W) t v∧Ri t:=by
 obtain⟨fuel,hf⟩:=h;obtain⟨t,u,hc,hk,a⟩:=aBj fuel hf;obtain⟨cs,rfl,_⟩:=okWide_struct Tryz.underlying24 hv;have hc:cs.toList=cO t u:=by simpa[Value.cells]using hc
 exact⟨t,⟨u,by rw[←hc],hk⟩,a⟩
end
end
section
open Go.RowKit Go.Vcg
structure Bd where
 (name:ByteArray) (kind:Int) (held:Bool) (slot:Int)
abbrev mI(b:Bd):List Value:=[.string b.name,.int .i64 b.kind,.bool b.held,.int .i64 b.slot]
structure Sc where
 (up fn kind at' :Int) (names:List Bd)
abbrev fF(p:Sc×Value):List Value:=[.int .i64 p.1.up,.int .i64 p.1.fn,.int .i64 p.1.kind,.int .i64 p.1.at',p.2]
def BdV(μ:Mem)(l:List Bd)(v:Value):Prop:=∃A c,v=.slice A l.length c∧Sl mI 4 μ A l.length l∧l.length≤10000000∧l.length≤c
theorem BdV.mono{μ μ' :Mem}{l:List Bd}{v:Value}(h:BdV μ l v)(hle:MLe μ μ'):BdV μ' l v:=by
 obtain⟨A,c,e,h1,h2⟩:=h;exact⟨A,c,e,h1.mono hle,h2⟩
theorem BdV.one{μ:Mem}{l:List Bd}{v:Value}(h:BdV μ l v):v.oneCell' =true:=by
 obtain⟨A,c,rfl,-⟩:=h;rfl
def ScR(μ:Mem)(A:Option Addr)(ps:List (Sc×Value)):Prop:=Sl fF 5 μ A ps.length ps∧ps.length≤9000∧∀p∈ps,BdV μ p.1.names p.2
theorem ScR.mono{μ μ' :Mem}{A:Option Addr}{ps:List (Sc×Value)}(h:ScR μ A ps)(hle:MLe μ μ'):ScR μ' A ps:=⟨h.1.mono hle,h.2.1,fun p a=>(h.2.2 p a).mono hle⟩
def iN(l:List Bd):Nat:=l.countP (fun b=>b.held)
theorem FP(l:List Bd):iN l≤l.length:=List.countP_le_length
theorem yC(l:List Bd):iN (l.take 0)=0:=by simp[iN]
theorem yE{l:List Bd}{k:Nat}{b:Bd}(h:l[k]? =some b):iN (l.take (k+1))=iN (l.take k)+if b.held=true then 1 else 0:=by
 unfold iN;rw[cG,h,List.countP_append];simp[nZ]
theorem RH{l:List Bd}{k:Nat}(h:l.length≤k):iN (l.take k)=iN l:=by rw[aK h]
theorem yD(l:List Bd)(k:Nat):iN (l.take k)≤k:=dU (FP _) (by rw[cM];omega)
def rD(fn:Int):List Sc→Nat
 |[]=>0
 |s::r=>(if s.fn=fn then s.names.length-iN s.names else 0)+rD fn r
theorem IV(fn:Int):∀a b:List Sc,rD fn (a++b)=rD fn a+rD fn b
 |[],b=>by simp[rD]
 | s::r,b=>by have:=IV fn r b;simp only[aU,rD,this];omega
theorem QV{fn:Int}{l:List Sc}{k:Nat}{s:Sc}(h:l[k]? =some s):rD fn (l.take (k+1))=rD fn (l.take k)+if s.fn=fn then s.names.length-iN s.names else 0:=by
 rw[cG,h,IV];simp[rD]
theorem aD1(fn:Int):∀l:List Sc,(∀s∈l,s.names.length≤10000000)→rD fn l≤10000000*l.length
 |[],_=>by simp[rD]
 | s::r,h=>by have h1:=aD1 fn r (fun x a=>h x (bP a));have h2:=h s (aE ..);have h3:=FP s.names;simp only[rD,bH];split<;>omega
def gP(x:ByteArray):List Bd→Nat→Option Nat
 |[],_=>none
 |b::r,k=>if b.name=x then some k else gP x r (k+1)
theorem IN{x:ByteArray}{l:List Bd}{k:Nat}{b:Bd}(h:l[k]? =some b):gP x (l.drop k) k=if b.name=x then some k else gP x (l.drop (k+1)) (k+1):=by
 have hlt:=(List.getElem?_eq_some_iff.1 h);obtain⟨h1,h2⟩:=hlt;rw[eE h1,h2];rfl
def findF(l:List Sc)(x:ByteArray):Nat→Int→Option (Nat×Nat)
 |0,_=>none
 | f + 1,at' =>if 0≤at' ∧at' <l.length then match l[at'.toNat]? with
     |none=>none
     | some s=>match gP x s.names 0 with
       |some k=>some (at'.toNat,k)
       |none=>if s.up≥at' then none else findF l x f s.up
   else none
theorem oH{l:List Sc}{x:ByteArray}{f:Nat}{at' :Int}(h:¬(0≤at' ∧at' <l.length)):findF l x f at' =none:=by
 cases f with
 |zero=>rfl
 |succ f=>unfold findF;rw[if_neg h]
theorem ZK{l:List Sc}{x:ByteArray}{f k:Nat}{s:Sc}(h:l[k]? =some s):findF l x (f+1) (k:Int)=match gP x s.names 0 with
 |some j=>some (k,j)
 |none=>if s.up≥(k:Int)then none else findF l x f s.up:=by
 have hlt:=(List.getElem?_eq_some_iff.1 h).1;rw[findF,if_pos ⟨by omega,by omega⟩];simp only[aG,h]
abbrev yV(r:Option (Nat×Nat)):Value:=match r with
 |some (s,k)=>.tuple #[.int .i64 (s:Int),.int .i64 (k:Int),.bool true]
 |none=>.tuple #[.int .i64 0,.int .i64 0,.bool false]
attribute [local irreducible] iN rD gP findF G GC GQ GA eV Calls IntKind.wrap Int.decLt Int.decLe
section
variable(w:World)(μ:Mem)(hμ:MOk μ w)
include hμ
theorem XF(s:Sc)(v:Value)(hv:BdV μ s.names v):bC 33 #[.agg (fF (s,v)).toArray] w (.int .i64 (iN s.names)):=by
 obtain⟨A,c,rfl,g,hl⟩:=hv;refine aF Tryz.func33 rfl Tryz.ntmps33 (by simp) hμ ?_;try repeat' (first|refine KZ ?_|refine NB fun b=>?_)
 refine cD (ι:=Nat×Nat) (fun i=>i.1≤s.names.length∧i.2=iN (s.names.take i.1)) (fun i=>s.names.length-i.1) (fun _=>μ) (fun i=>[(9,.int .i64 (i.1:Int)),(8,.int .i64 (s.names.length:Int)),(7,.slice A s.names.length c),(3,.int .i64 (i.2:Int))]) (fun _=>[]) (0,0) ⟨aN _,(yC _).symm⟩ (fun a w hs=>J5 hs) ?_;rintro⟨k,n⟩ ⟨hk,hn⟩;dsimp only at hk hn⊢;have hb:=yD s.names k;by_cases hlt:k<s.names.length
 ·obtain⟨ad,y,rfl,f,hm⟩:=g.get hlt;have e:=yE f;rw[←hn]at e hb;obtain⟨nm,kd,hd,sl⟩:=y;cases hd
  ·rw[if_neg (by simp)]at e;try repeat' (first|refine KO ?_|(refine KV (b:=by first|exact U1 k|exact U4 hm) (c:=?_))|refine KZ ?_|refine NB fun b=>?_)
   all_goals exact J2 (k+1,n) ⟨by dsimp only;omega,e.symm⟩ (by dsimp only;omega)
  ·rw[if_pos rfl]at e;try repeat' (first|refine KO ?_|(refine KV (b:=by first|exact U1 k|exact U4 hm) (c:=?_))|refine KZ ?_|refine NB fun b=>?_)
   all_goals exact J2 (k+1,n+1) ⟨by dsimp only;omega,e.symm⟩ (by dsimp only;omega)
 ·obtain rfl:k=s.names.length:=by omega
  rw[RH (aC _)]at hn;subst hn;try repeat' (refine KZ ?_)
  exact aQ rfl rfl rfl
theorem IL(s:Sc)(v:Value)(hv:BdV μ s.names v):bC 58 #[.agg (fF (s,v)).toArray] w (.int .i64 (iN s.names)):=by
 obtain⟨A,c,rfl,g,hl⟩:=hv;refine aF Tryz.func58 rfl Tryz.ntmps58 (by simp) hμ ?_;try repeat' (first|refine KZ ?_|refine NB fun b=>?_)
 refine cD (ι:=Nat×Nat) (fun i=>i.1≤s.names.length∧i.2=iN (s.names.take i.1)) (fun i=>s.names.length-i.1) (fun _=>μ) (fun i=>[(4,.int .i64 (i.1:Int)),(1,.pointer (some ⟨b,0,none⟩)),(3,.int .i64 (i.2:Int))]) (fun _=>[.inl ⟨b,43,5,idx 0 [.int .i64 s.up,.int .i64 s.fn,.int .i64 s.kind,.int .i64 s.at',.slice A s.names.length c]⟩]) (0,0) ⟨aN _,(yC _).symm⟩ (fun a w hs=>J5 hs) ?_;rintro⟨k,n⟩ ⟨hk,hn⟩;dsimp only at hk hn⊢;have hb:=yD s.names k;by_cases hlt:k<s.names.length
 ·obtain⟨ad,y,rfl,f,hm⟩:=g.get hlt;have e:=yE f;rw[←hn]at e hb;obtain⟨nm,kd,hd,sl⟩:=y;cases hd
  ·rw[if_neg (by simp)]at e;try repeat' (first|refine KO ?_|(refine KV (b:=by first|exact U1 k|exact U4 hm) (c:=?_))|refine KZ ?_)
   all_goals exact J2 (k+1,n) ⟨by dsimp only;omega,e.symm⟩ (by dsimp only;omega)
  ·rw[if_pos rfl]at e;try repeat' (first|refine KO ?_|(refine KV (b:=by first|exact U1 k|exact U4 hm) (c:=?_))|refine KZ ?_)
   all_goals exact J2 (k+1,n+1) ⟨by dsimp only;omega,e.symm⟩ (by dsimp only;omega)
 ·obtain rfl:k=s.names.length:=by omega
  rw[RH (aC _)]at hn;subst hn;try repeat' (refine KZ ?_)
  exact aQ rfl rfl rfl
end
end
section
open Go.RowKit Go.Vcg
attribute [local irreducible] G GC GQ GA eV Calls IntKind.wrap Int.decLt Int.decLe
def gA(t:T):List T:=
 if t.op=60∨t.op=61∨t.op=5 then t.kids else if t.op=63∨t.op=64 then t.kids.take 1 else if t.op=62 then(t.kids.drop 1).take 1 else[]
theorem DG{t k:T}(h:k∈gA t):k∈t.kids:=by
 unfold gA at h;split at h
 ·exact h
 ·split at h
  ·exact bE h
  ·split at h
   ·exact cU (bE h)
   ·cases h
theorem LQ{t k:T}(h:k∈t.kids):SizeOf.sizeOf k<SizeOf.sizeOf t:=by
 obtain⟨i,hi⟩:=List.mem_iff_getElem?.1 h;exact T.aAs hi
def bB(t:T):List ByteArray:=if t.op=34 then[t.s]else(gA t).attach.flatMap fun k=>bB k.1
termination_by SizeOf.sizeOf t
decreasing_by exact LQ (DG k.2)
theorem qR{t:T}(h:t.op=34):bB t=[t.s]:=by rw[bB,if_pos h]
theorem qT{t:T}(h:t.op≠34):bB t=(gA t).flatMap bB:=by
 rw[bB,if_neg h];simp
theorem T.ind{p:T→Prop}(h:∀t,(∀k,k∈t.kids→p k)→p t)(t:T):p t:=
 (measure (fun t:T=>SizeOf.sizeOf t)).wf.induction t fun t ih=>h t fun k hk=>ih k (LQ hk)
def mX(l:List T):Nat:=(l.map T.size).sum
theorem vQ(l:List T)(k:Nat):mX (l.take k)≤mX l:=by
 have:mX l=mX (l.take k)+mX (l.drop k):=by
  conv=>lhs;rw[←dN k l]
  simp only[mX,bJ,kM]
 omega
theorem WE(l:List T)(k:Nat):mX (l.drop k)≤mX l:=by
 have:mX l=mX (l.take k)+mX (l.drop k):=by
  conv=>lhs;rw[←dN k l]
  simp only[mX,bJ,kM]
 omega
theorem aBq(l:List T):l.length≤mX l:=by
 induction l with
 |nil=>simp
 | cons k l ih=>
   have:=T.size_eq k;simp[mX]at*;omega
theorem IF(t:T):mX (gA t)<t.size:=by
 rw[T.size_eq];have h0:(t.kids.map T.size).sum=mX t.kids:=rfl;rw[h0];unfold gA;have h1:=vQ t.kids 1;have h2:=WE t.kids 1;have h3:=vQ (t.kids.drop 1) 1;have h4:mX []=0:=rfl;split
 ·omega
 ·split
  ·omega
  ·split<;>omega
theorem uW{l:List T}(h:∀k∈l,(bB k).length≤k.size):(l.flatMap bB).length≤mX l:=by
 induction l with
 |nil=>simp[mX]
 | cons k l ih=>
   have h1:=h k (by simp);have h2:=ih (fun k hk=>h k (by simp[hk]));simp[mX]at*;omega
theorem kQ(t:T):(bB t).length≤t.size:=by
 induction t using T.ind with
 | h t ih=>
   by_cases h:t.op=34
   ·rw[qR h,T.size_eq];simp
   ·rw[qT h];have:=uW (l:=gA t) (fun k hk=>ih k (DG hk));have:=IF t;omega
theorem KR.take{μ:Mem}{ks:List T}{A:Option Addr}{n c:Nat}(h:KR μ ks (.slice A n c))(k:Nat)(hk:k≤n):KR μ (ks.take k) (.slice A k c):=by
 cases h with
 | mk _ A c vs hcap hcell hone hsub=>
   have e:(ks.take k).length=k:=by simp;omega
   have h0:∀(i:Nat) (t:T),(ks.take k)[i]? =some t→ks[i]? =some t:=fun i t hi=>by rw[eH]at hi;split at hi<;>simp_all
   have:=KR.mk (μ:=μ) (ks.take k) A c vs (by omega) (fun i t hi=>hcell i t (h0 i t hi)) (fun i t hi=>hone i t (h0 i t hi)) (fun i t hi=>hsub i t (h0 i t hi));rw[e]at this;exact this
theorem KR.drop{μ:Mem}{ks:List T}{A:Option Addr}{n c:Nat}(h:KR μ ks (.slice A n c))(k m:Nat)(hk:k≤m)(hm:m≤n):KR μ ((ks.drop k).take (m-k)) (.slice (if c=k then A else A.map (·.add (k*6))) (m-k) (c-k)):=by
 refine KR.take (n:=n-k) ?_ (m-k) (by omega);cases h with
 | mk _ A c vs hcap hcell hone hsub=>
   have e:(ks.drop k).length=ks.length-k:=by simp
   have h0:∀(i:Nat) (t:T),(ks.drop k)[i]? =some t→ks[k+i]? =some t:=fun i t hi=>by simpa using hi
   have:=KR.mk (μ:=μ) (ks.drop k) (if c=k then A else A.map (·.add (k*6))) (c-k) (fun i=>vs (k+i)) (by omega) (fun i t hi=>?_) (fun i t hi=>hone _ t (h0 i t hi)) (fun i t hi=>hsub _ t (h0 i t hi))
   ·rw[e]at this;exact this
   ·obtain⟨a,e,hc⟩:=hcell _ t (h0 i t hi);have:k+i<ks.length:=(List.getElem?_eq_some_iff.1 (h0 i t hi)).1;rw[if_neg (by omega),e];refine⟨_,rfl,?_⟩;rw[oD,←eI];exact hc
theorem VX(l:List T):l.take (min 1 l.length)=l.take 1:=by cases l<;>simp
theorem VQ(w:World)(μ:Mem)(hμ:MOk μ w)(t:T)(kv:Value)(hk:KR μ t.kids kv):
 Calls Tryz.prog 134 #[.agg (cO t kv).toArray] w fun e w' =>∃v μ',e=.returned v∧vI w w' μ μ' ∧KR μ' (gA t) v:=by
 refine aF Tryz.func134 rfl Tryz.ntmps134 (by simp) hμ ?_;obtain⟨A,c,rfl,hcap,f⟩:=hk.form;try repeat' (first|refine KO ?_|(refine KV (b:=by first|((with_reducible apply aHs);exact rfl;exact rfl)|((with_reducible apply LA (min 1 t.kids.length));(iterate 4 exact rfl);(focus(split<;>omega;done));omega)|((with_reducible apply SU 1 2);(iterate 7 exact rfl);omega;omega)) (c:=?_))|refine KZ ?_|refine NB fun b=>?_|(refine KB ?_ ?_<;>intro g))
 all_goals refine sC rfl (cX rfl) (fun μ' hle _=>?_)
 all_goals have a:=hk.mono hle
 all_goals unfold gA
 ·rw[if_pos (by omega)];exact a
 ·rw[if_pos (by omega)];exact a
 ·rw[if_pos (by omega)];exact a
 ·rw[if_neg (by omega),if_pos (by omega)];have:=a.take (min 1 t.kids.length) (nX _ _);rwa[VX]at this
 ·rw[if_neg (by omega),if_pos (by omega)];have:=a.take (min 1 t.kids.length) (nX _ _);rwa[VX]at this
 ·rw[if_neg (by omega),if_neg (by omega),if_pos (by omega)];exact a.drop 1 2 (by omega) (by omega)
 ·rw[if_neg (by omega),if_neg (by omega),if_pos (by omega),cB (by omega)];exact KR.nil _ _ _
 ·rw[if_neg (by omega),if_neg (by omega),if_neg (by omega)];exact KR.nil _ _ _
theorem aI0(l:List ByteArray):∀u∈l.flatMap mZ,u.oneCell' =true:=by
 intro u hu;obtain⟨x,_,a⟩:=List.mem_flatMap.1 hu;simp at a;subst a;rfl
theorem aJh(l:List ByteArray):(l.flatMap mZ).length=l.length:=by
 have:=nP (enc:=mZ) (s:=1) (fun _=>rfl) l;omega
def VM(f:FuncId)(t:T):Prop:=∀(w:World) (μ:Mem) (kv:Value),MOk μ w→KR μ t.kids kv→t.size≤1000000→
 Calls Tryz.prog f #[.agg (cO t kv).toArray] w (sZ w 9 1 (bB t).length ((bB t).flatMap mZ))
theorem aBk(t:T)(ih:∀k,k∈t.kids→VM 81 k):VM 81 t:=by
 intro w μ kv hμ hk ai;refine aF Tryz.func81 rfl Tryz.ntmps81 (by simp) hμ ?_;by_cases g:t.op=34
 ·try repeat' (first|refine KZ ?_|refine NB fun b=>?_)
  rw[qR g];refine aR4 (l' :=[(2,.slice (some ⟨b,0,none⟩) 1 1)]) (L' :=[.inl ⟨b,9,1,idx 0 [.string t.s]⟩]) PU (by repeat first|exact aT|refine aD ?_) ?_;refine HT 1 1 rfl (bL rfl cH) (by omega) ?_;exact qI 0 rfl rfl rfl
 ·have ag:=IF t;have ah:=aBq (gA t);have hsub:∀i,(((gA t).take i).flatMap bB).length≤t.size:=fun i=>by have h1:=uW (l:=(gA t).take i) (fun k _=>kQ k);have h2:=vQ (gA t) i;omega
  try repeat' (first|refine KZ ?_|((with_reducible apply C2);exact rfl;exact EN;exact fun w hw=>VQ w μ hw t kv hk;intro v μ1 af aa;obtain⟨A,c,rfl,hcap,q⟩:=aa.form)|refine NB fun b=>?_)
  refine cD (ι:=Nat×Value) (fun i=>i.1≤(gA t).length) (fun i=>(gA t).length-i.1) (fun _=>μ1) (fun i=>[(15,.int .i64 i.1),(14,.int .i64 (gA t).length),(13,.slice A (gA t).length c),(3,i.2)]) (fun i=>[.inr ⟨i.2,9,1,(((gA t).take i.1).flatMap bB).length,(((gA t).take i.1).flatMap bB).flatMap mZ⟩]) (0,.slice none 0 0) (by simp) (fun a w hs=>(hs.xY 9 1).sub PU (by repeat first|exact aT|refine aD ?_)) ?_;rintro⟨i,v⟩ hi;dsimp only at hi⊢;by_cases hlt:i< (gA t).length
  ·have e:(gA t)[i]? =some (gA t)[i]:=aA hlt;generalize (gA t)[i]=k at e;obtain⟨ad,u,rfl,hm,hone,z⟩:=q i k e;have p:=DG (aB e);have o:k.size≤1000000:=by obtain⟨j,hj⟩:=List.mem_iff_getElem?.1 p;have:=T.fY hj;omega
   have x:=hsub (i+1);have f:((gA t).take (i+1)).flatMap bB=((gA t).take i).flatMap bB++bB k:=by rw[cG,e];simp
   have r:(cO k u).all (·.oneCell')=true:=by simp only[lR,List.all_nil,iY,aM];exact⟨rfl,rfl,rfl,rfl,rfl,hone⟩
   have ae:(((gA t).take i).flatMap bB).length+ (bB k).length≤1000000:=by rw[f,aI]at x;omega
   have h1:=aI0 (bB k);have h2:=aJh (bB k);try repeat' (first|((with_reducible apply aB5);(iterate 5 exact rfl);exact r;exact rfl;(repeat first|with_reducible exact aBe|with_reducible apply TR))|refine KO ?_|((with_reducible apply C3);exact rfl;exact EN;(exact fun w μc hk y=>ih k p w μc u hk (z.mono y.le) o);intro v2;(with_reducible apply fI 0);exact rfl;rintro A2 c2 rfl h)|(((with_reducible apply qA);(iterate 3 exact rfl);(repeat first|with_reducible exact fO|with_reducible apply gD);(iterate 6 exact rfl);(((with_reducible apply aDa 0);exact h;exact rfl;exact rfl));(omega);(assumption);omega;omega;intro v))|(refine KV (b:=by first|exact U1 i|exact U4 hm) (c:=?_))|refine KZ ?_|refine NB fun b=>?_)
   refine KL (i+1,v) (by dsimp only;omega) (by dsimp only;omega) rfl PU ?_;dsimp only;rw[f,aI,cZ];exact(by repeat first|exact bQ _|refine cP ?_)
  ·try repeat' (refine KZ ?_)
   have ab:i=(gA t).length:=by omega
   rw[qT g];subst ab;simp only[lX];exact qI 0 rfl rfl rfl
theorem xZ(t:T):VM 81 t:=T.ind aBk t
end
section
open Go.RowKit Go.Vcg
structure ED where
 (lex:Bool) (ins:List Int) (par:Int) (twice:Bool)
structure EP where
 (strict gen fn head:Bool) (regs:List Int) (labels loops:List ByteArray) (loop choice:Bool) (mine:List ByteArray) (own each:Bool)
structure ES where
 (names:List (ByteArray×List ED)) (regs:Nat) (at' e:Int)
def anI(x y:Int):Int:=IntKind.i64.wrap ((BitVec.ofInt 64 x&&& BitVec.ofInt 64 y).toNat:Int)
def pS(n b:Int):Bool:=decide (0≤n)&&decide (anI n b≠0)
def cJ(t:T)(i:Nat):T:=(t.kids[i]?).getD T.zero
def GZ:ByteArray:= "use strict".toUTF8
def OS(t:T):List T:=if t.op=1 then t.kids else if t.op=4∧1<t.kids.length∧(cJ t 1).op=6 then(cJ t 1).kids else[]
def xQ:List T→Bool
 |[]=>false
 |s::r=>if s.op=8∧s.kids.length=1∧(cJ s 0).op=31 then(if(cJ s 0).s=GZ then true else xQ r)else false
def qG(t:T):Bool:=xQ (OS t)
def pD(t:T):Bool:=decide (t.op=5)&&t.kids.all fun k=>decide (k.op=34)
def iX(c:Bool)(a e:Int)(s:ES):ES:=if c=true∧s.e=0 then{ s with at' :=a,e:=e }else s
def nM(a b:ED):Bool:=if b.twice=true∧b.par≠0∧a.par=b.par then true else(a.lex||b.lex)&&a.ins.any fun r=>b.ins.contains r
def oA(x:ByteArray):List (ByteArray×List ED)→List ED
 |[]=>[]
 |(y,l)::r=>if x=y then l else oA x r
def wX(x:ByteArray)(l:List ED):List (ByteArray×List ED)→List (ByteArray×List ED)
 |[]=>[(x,l)]
 |(y,m)::r=>if x=y then(y,l)::r else(y,m)::wX x l r
def rV(a:Int)(x:ByteArray)(d:ED)(s:ES):ES:=
 let s1:=iX ((oA x s.names).any fun o=>nM o d) a 30 s
 { s1 with names:=wX x (oA x s1.names++[d]) s1.names }
def nO(wd:ByteArray→Int)(t:T)(x:ByteArray)(p:EP)(s:ES):ES:=
 let s1:=iX (decide (wd x=1)||decide (x= "let".toUTF8)) t.at' 23 s
 let s2:=if t.op=34∨t.op=31 then iX (decide (x= "yield".toUTF8)&&p.gen) t.at' 34 s1 else s1
 iX (p.strict&&decide (wd x=2)) t.at' 35 s2
def mB(p:EP):List Int:=p.regs.drop (p.regs.length-1)
def iE(p:EP)(s:ES):EP:={ p with regs:=p.regs++[((s.regs+1:Nat):Int)] }
def eX(s:ES):ES:={ s with regs:=s.regs+1 }
def rW(p:EP):EP:={ p with mine:=[],own:=false,each:=false }
section
variable(wd:ByteArray→Int)(N:T→EP→ES→ES)(B:T→EP→ED→ES→ES)
def nC(l:List T)(p:EP)(s:ES):ES:=l.foldl (fun s k=>N k p s) s
def DF(t:T)(p:EP)(d:ED)(s:ES):ES:=
 if t.op=34 then rV t.at' t.s d (nO wd t t.s p s)
 else if t.op=51∨t.op=52 then iX true t.at' 24 s
 else if t.op=63 then N (cJ t 1) p (B (cJ t 0) p d s)
 else if t.op=62 then B (cJ t 1) p d (N (cJ t 0) p s)
 else if t.op=60∨t.op=61∨t.op=64 then t.kids.foldl (fun s k=>B k p d s) s
 else s
def lN(t:T)(p:EP)(s:ES):ES:=N t p (iX ((decide (t.op=4)&&pS t.n 1)||(decide (t.op=2)&&(decide (t.n=1)||decide (t.n=2)))) t.at' 23 s)
def sA(t:T)(p:EP)(mine:List ByteArray)(s:ES):ES:=lN N t { p with loop:=true,loops:=p.loops++mine } s
def inP(t:T)(p:EP):EP:=⟨p.strict||qG t,pS t.n 4,true,false,[],[],[],false,false,[],false,false⟩
def UO(t:T)(p:EP)(own:Bool)(s:ES):ES:=
 let s1:=if t.s≠⟨#[]⟩then nO wd t t.s { p with strict:=(inP t p).strict } s else s
 let s2:=iX (qG t&& !pD (cJ t 0)) t.at' 35 s1
 let s3:=if pS t.n 1 then rV t.at' t.s ⟨!own,if own then p.regs else mB p,0,false⟩ s2 else s2
 let i:=iE (inP t p) s3
 let s4:=eX s3
 let s5:=(cJ t 0).kids.foldl (fun s k=>B k { i with head:=true } ⟨false,i.regs,(s4.regs:Int),(i.strict||pS t.n 2||pS t.n 8|| !pD (cJ t 0))⟩ s) s4
 if(cJ t 1).op≠6 then N (cJ t 1) i s5 else nC N (cJ t 1).kids { i with own:=true } s5
def EU(t:T)(p:EP)(each:Bool)(s:ES):ES:=
 let d:ED:=if t.n≠0 then⟨true,mB p,0,false⟩else⟨false,p.regs,0,false⟩
 t.kids.foldl (fun s k=>nC N (k.kids.drop 1) p (B (cJ k 0) p d (iX (decide (k.kids.length=1)&& !each&&(decide (t.n=2)||decide ((cJ k 0).op≠34))) k.at' 36 s))) s
def IX(t:T)(p:EP)(s:ES):ES:=
 if t.s=⟨#[]⟩then iX (!p.loop&&(decide (t.op=16)|| !p.choice)) t.at' 32 s
 else iX (decide (t.op=16)&& !p.loops.contains t.s) t.at' 32 (iX (!p.labels.contains t.s) t.at' 31 (nO wd t t.s p s))
def FJ(t:T)(p:EP)(mine:List ByteArray)(s:ES):ES:=
 if t.op=13 then sA N (cJ t 1) p mine (N (cJ t 0) p s)
 else if t.op=14 then N (cJ t 1) p (sA N (cJ t 0) p mine s)
 else
  let q:=iE p s
  let s1:=(t.kids.take (t.kids.length-1)).foldl (fun s k=>N k { q with each:=decide (t.op≠10) } s) (eX s)
  sA N (cJ t (t.kids.length-1)) q mine s1
def zL(t:T)(p:EP)(s:ES):ES:=
 if t.op=15∨t.op=16 then nC N t.kids p (IX wd t p s)
 else if t.op=17 then nC N t.kids p (iX (!p.fn||p.head) t.at' 33 s)
 else if t.op=34 then nC N t.kids p (nO wd t t.s p s)
 else if t.op=39∧t.n=3 then nO wd (cJ t 0) (cJ t 0).s p s
 else if t.op=54 then nC N t.kids p (iX (!p.gen||p.head) t.at' 34 s)
 else if t.op=42 then nC N t.kids p (iX (p.strict&&decide (t.s= "delete".toUTF8)&&decide ((cJ t 0).op=34)) t.at' 35 s)
 else nC N t.kids p s
def CQ(t:T)(p0:EP)(s:ES):ES:=
 if s.e≠0 then s else
 let p:=rW p0
 if t.op=2 then EU N B t p p0.each s
 else if t.op=4 then UO wd N B t p p0.own s
 else if t.op=6 then nC N t.kids (iE p s) (eX s)
 else if t.op=20 then nC N (cJ t 1).kids (iE p s) (B (cJ t 0) (iE p s) ⟨true,mB (iE p s),0,false⟩ (eX s))
 else if t.op=10∨t.op=11∨t.op=12∨t.op=13∨t.op=14 then FJ N t p p0.mine s
 else if t.op=21 then
  let s1:=N (cJ t 0) p s
  nC N (t.kids.drop 1) { iE p s1 with choice:=true } (eX s1)
 else if t.op=9 then(t.kids.drop 1).foldl (fun s k=>lN N k p s) (N (cJ t 0) p s)
 else if t.op=23 then
  let s1:=iX (p.labels.contains t.s) t.at' 31 (nO wd t t.s p s)
  lN N (cJ t 0) { p with labels:=p.labels++[t.s],mine:=p0.mine++[t.s] } s1
 else zL wd N t p s
end
def nbE(wd:ByteArray→Int):Nat→(T→EP→ES→ES)×(T→EP→ED→ES→ES)
 |0=>(fun _ _ s=>s,fun _ _ _ s=>s)
 |f+1=>(CQ wd (nbE wd f).1 (nbE wd f).2,DF wd (nbE wd f).1 (nbE wd f).2)
def LN(t:T):EP:=⟨qG t,false,false,false,[1],[],[],false,false,[],true,false⟩
def yK(wd:ByteArray→Int)(f:Nat)(t:T):ES:=nC (nbE wd f).1 t.kids (LN t) ⟨[],1,0,0⟩
end
end Go.Proofs.YtlllalmkkaolfaaGreatDoor
namespace Go.Vcg
section
open Go.RowKit
section
variable{P:Program}{X:Ctx}{Q:Exit→Act→World→Prop}{μ:Mem}{l:bS}{L L' :List Bk}{a:Act}{w:World}
theorem rH{c:Code}(b:L'.Perm L)(h:GC P X c Q μ l L'):GC P X c Q μ l L:=fun a w hs=>h a w (hs.perm b)
theorem nD{e:Exit}(b:L'.Perm L)(h:GQ X Q e μ l L'):GQ X Q e μ l L:=fun a w hs=>h a w (hs.perm b)
theorem UM{ops:Array Oper}{rest:List Oper}(b:L'.Perm L)(h:G P X ops Q rest μ l L'):G P X ops Q rest μ l L:=fun a w hs=>h a w (hs.perm b)
theorem lG{F R:List Bk}{k:Nat}{y:Bk}(h:R[k]? =some y):(y::(F++R.eraseIdx k)).Perm (F++R):=by
 obtain⟨h1,h2⟩:=List.getElem?_eq_some_iff.1 h;have e:R=R.take k++y::R.drop (k+1):=by rw[←h2];simp
 have e2:R.eraseIdx k=R.take k++R.drop (k+1):=List.eraseIdx_eq_take_drop_succ ..;rw[e2]
 conv=>rhs;rw[e]
 rw[←bA,←bA];exact gW.symm
theorem zK{F R:List Bk}{k:Nat}(y:Bk)(h:k<R.length):(F++R.set k y).Perm (y::(F++R.eraseIdx k)):=by
 have h2:=lG (F:=F) (R:=R.set k y) (k:=k) (y:=y) (by rw[jM h]);rw[List.eraseIdx_set_eq]at h2;exact h2.symm
end
end
section
open Go.RowKit
theorem vO:∀a b:List Bk,splitB a.length (a++b)=some (a,b)
 |[],b=>rfl
 | x::a,b=>by
   show(match splitB a.length (a++b)with|some (p,q)=>some (x::p,q)|none=>none)=_
   rw[vO a b]
section
variable{P:Program}{X:Ctx}{ops:Array Oper}{Q:Exit→Act→World→Prop}{rest:List Oper}{μ:Mem}{l:bS}{L:List Bk}{o:Oper}{d:Nat}{w:World}
theorem Ent.perm{L' :List Bk}{f:FuncId}{vs:Array Value}(c:L'.Perm L)(h:Ent P μ l L o f vs):Ent P μ l L' o f vs:=fun a w hr=>h a w ⟨hr.slots,hr.mem,fun x b=>hr.own x (c.mem_iff.2 b)⟩
theorem qV{f:FuncId}{vs:Array Value}{ι:Type}{Ls:ι→List Bk}{Post:Mem→Value→ι→Prop}{LB Lr:List Bk}(k:Nat)(hd:o.dst=some d)(hn:Nat.blt d X.n=true)(hw:iF ops l o=some true)(hr:Ent P μ l L o f vs)
 (hL:splitB k L=some (Lr,LB))
 (hc:∀w,MOk μ w→Own μ LB w→Calls P f vs w fun e w' =>∃v μ' i,e=.returned v∧mW (lH LB) w w' μ (Ls i) μ' ∧Post μ' v i)
 (h:∀v μ' i,MLe μ μ' →Post μ' v i→G P X ops Q rest μ' ((d,v)::l) (Lr++Ls i)):G P X ops Q (o::rest) μ l L:=by
 have he:=qQ hL;subst he;exact UM gH (oU LB.length hd hn hw (hr.perm gH) (vO LB Lr) hc fun v μ' i hle a=>UM gH (h v μ' i hle a))
theorem RV.perm{L' :List Bk}{r:ResultVar}{v:Value}(c:L'.Perm L)(h:RV P μ l L r v):RV P μ l L' r v:=fun a w hr=>h a w ⟨hr.slots,hr.mem,fun x b=>hr.own x (c.mem_iff.2 b)⟩
theorem TM{fn:Func}{n:Nat}{r:ResultVar}{v:Value}{μ0:Mem}{M:List Nat}{ι:Type}{Ls:ι→List Bk}{Post:Mem→Value→ι→Prop}{L' Lr:List Bk}(k:Nat)(i:ι)(c:∀D,M.count D≤1)(hr:fn.results= #[r])(h:RV P μ l L r v)(hL:splitB k L=some (Lr,L'))(a:Ls i=L')
 (b:∀μ',MLe μ μ' →Post μ' v i):
 GQ ⟨w,μ0,M,n⟩ (bodyPost P fn (fun e w' =>∃v μ' i,e=.returned v∧mW M w w' μ0 (Ls i) μ' ∧Post μ' v i)) .ret μ l L:=by
 have he:=qQ hL;subst he;exact nD gH (KE L'.length i c hr (h.perm gH) (vO L' Lr) a b)
theorem zH{fn:Func}{n:Nat}{μ0:Mem}{M:List Nat}{ι:Type}{Ls:ι→List Bk}{Post:Mem→Value→ι→Prop}{L' Lr:List Bk}{e:Exit}(k:Nat)(i:ι)(he:e=.ret∨e=.normal)(c:∀D,M.count D≤1)(hr:fn.results= #[])(hL:splitB k L=some (Lr,L'))(a:Ls i=L')
 (b:∀μ' v,MLe μ μ' →Post μ' v i):
 GQ ⟨w,μ0,M,n⟩ (bodyPost P fn (fun e w' =>∃v μ' i,e=.returned v∧mW M w w' μ0 (Ls i) μ' ∧Post μ' v i)) e μ l L:=by
 have h1:=qQ hL;subst h1;exact nD gH (aIp L'.length i he c hr (vO L' Lr) a b)
theorem lT{c:Code}{Q:Exit→Act→World→Prop}{L' :List Bk}(e:L=L')(h:GC P X c Q μ l L'):GC P X c Q μ l L:=by subst e;exact h
theorem gO{c:Exit}{Q:Exit→Act→World→Prop}{L' :List Bk}(hL:Sel L' L)(h:GQ X Q c μ l L'):GQ X Q c μ l L:=UH (fun _ _ h=>h) hL h
end
end
end Go.Vcg
