/- Package scope: the resolution of names as plain functions. -/
import Derived.Test.YtlllalmkkaolfaaGreatDoorUah
set_option maxRecDepth 20000
set_option maxHeartbeats 2000000
namespace Go.Proofs.YtlllalmkkaolfaaGreatDoor
section
open Go.RowKit Go.Vcg
structure Us where
 (at' scope wh hops slot kind:Int) (name:ByteArray) (check:Bool)
structure Ux where
 (u:Us) (ts tb:Nat) (found:Bool) (fn:Int)
structure Wh where
 (scope fn:Int) (decl:Bool)
structure FS where
 (scopes:List Sc) (uses:List Ux) (funcs:Nat) (cases:List (Int×Int)) (heads:List (Int×Bool)) (done:List ((Int×Int)×Int))
def jG(t:T)(b:Int):Bool:=decide (t.op=4)&&decide (anI t.n b≠0)
def cQ(t:T)(i:Nat):T:=(t.kids[i]?).getD T.zero
def jY(x:ByteArray)(k:Int):List Bd→List Bd
 |[]=>[⟨x,k,false,0⟩]
 |b::r=>if b.name=x then(if k=3 then{ b with kind:=k }::r else b::r)else b::jY x k r
def dT(k:Int)(xs:List ByteArray)(l:List Bd):List Bd:=xs.foldl (fun l x=>jY x k l) l
def eM(t:T)(l:List Bd):List Bd:=t.kids.foldl (fun l d=>dT t.n (bB (cQ d 0)) l) l
def bF(kids:List T)(funcs:Bool)(l:List Bd):List Bd:=kids.foldl (fun l t=>if t.op=2∧t.n≠0 then eM t l else if(jG t 1&&funcs)=true then jY t.s 3 l else l) l
def dR:Nat→T→List Bd→List Bd
 |0,_,l=>l
 |f+1,t,l=>if t.op=4 then l else t.kids.foldl (fun l k=>dR f k l) (if t.op=2∧t.n=0 then eM t l else l)
def dM(f:Nat)(t:T):List Bd:=
 let l:=dR f (cQ t 0) (dT 4 (bB (cQ t 0)) [])
 if(cQ t 1).op≠6∨jG t 128=true then dR f (cQ t 1) l
 else(cQ t 1).kids.foldl (fun l k=>dR f k (bF [k] true l)) l
def kL(kind at' :Int)(w:Wh)(l:List Bd)(s:FS):FS:={ s with scopes:=s.scopes++[⟨w.scope,w.fn,kind,at',l⟩] }
def nG(w:Wh)(s:FS):Wh:={ w with scope:=(s.scopes.length:Int) }
def iJ(kind at' :Int)(w:Wh)(l:List Bd)(s:FS):FS:=if l.length=0 then s else kL kind at' w l s
def eF(w:Wh)(l:List Bd)(s:FS):Wh:=if l.length=0 then w else nG w s
def iD(l:List Sc)(at' :Int)(x:ByteArray):Option (Nat×Nat):=findF l x (at'.toNat+1) at'
def fD(l:List Sc)(s b:Nat):Int:=(((l[s]?).bind fun c=>c.names[b]?).map (·.kind)).getD 0
def oB(l:List Sc)(s:Nat):Int:=((l[s]?).map (·.fn)).getD 0
def qL(s:FS)(ts tb:Nat)(fn:Int):Bool:=
 match gM ((ts:Int),(tb:Int)) s.done with
 |none=>false
 |some k=>decide (fn=oB s.scopes ts)&& !((gM (ts:Int) s.heads).getD false)&&decide (k=(gM (ts:Int) s.cases).getD 0)
def pL(t:T)(w:Wh)(s:FS):FS:=
 let u:Ux:=match iD s.scopes w.scope t.s with
  |none=>⟨⟨t.at',w.scope,2,0,0,0,t.s,false⟩,0,0,false,w.fn⟩
  | some (a,b)=>
    let k:=fD s.scopes a b
    ⟨⟨t.at',w.scope,2,0,0,k,t.s,(decide (k=1)||decide (k=2))&& !w.decl&& !qL s a b w.fn⟩,a,b,true,w.fn⟩
 { s with uses:=s.uses++[u] }
section
variable(N:T→Wh→FS→FS)(fu:Nat)
def vM(l:List T)(w:Wh)(s:FS):FS:=l.foldl (fun s k=>N k w s) s
def HV(t:T)(w:Wh)(s:FS):FS:=
 let s1:={ s with funcs:=s.funcs+1 }
 let w1:={ w with fn:=((s.funcs+1:Nat):Int) }
 let c:Bool:= !decide (t.s=⟨#[]⟩)&& !jG t 1
 let s2:=if c=true then kL 5 t.at' w1 [⟨t.s,7,false,0⟩] s1 else s1
 let w2:=if c=true then nG w1 s1 else w1
 let s3:=kL 1 t.at' w2 (dM fu t) s2
 let w3:=nG w2 s2
 let s4:=N (cQ t 0) w3 s3
 if(cQ t 1).op=6∧jG t 128=false then vM N (cQ t 1).kids w3 s4 else N (cQ t 1) w3 s4
def zS(t:T)(w:Wh)(s:FS):FS:=
 let h:=cQ t 0
 let c:Bool:=decide (h.op=2)&& !decide (h.n=0)
 let s1:=if c=true then iJ 3 t.at' w (eM h []) s else s
 let w1:=if c=true then eF w (eM h []) s else w
 (t.kids.zipIdx).foldl (fun s k=>
   if k.2=1∧t.op≠10∧w1.scope≠w.scope then
    let s2:=N k.1 w1 { s with heads:=iS w1.scope true s.heads }
    { s2 with heads:=tJ w1.scope s2.heads }
   else N k.1 w1 s) s1
def rN(t:T)(w:Wh)(s:FS):FS:=
 let l:=(t.kids.drop 1).foldl (fun l k=>bF k.kids true l) []
 let s1:=iJ 2 t.at' w l s
 let w1:=eF w l s
 let s2:=N (cQ t 0) w s1
 ((t.kids.drop 1).zipIdx).foldl (fun s k=>N k.1 w1 (if w1.scope≠w.scope then{ s with cases:=iS w1.scope (k.2:Int) s.cases }else s)) s2
def AS(t:T)(w:Wh)(s:FS):FS:=
 let s1:=N (cQ t 0) { w with decl:=true } s
 let s2:=vM N (t.kids.drop 1) w s1
 (bB (cQ t 0)).foldl (fun s x=>match iD s.scopes w.scope x with
   |some (a,b)=>{ s with done:=iS ((a:Int),(b:Int)) ((gM (a:Int) s.cases).getD 0) s.done }
   |none=>s) s2
def uQ(t:T)(w:Wh)(s:FS):FS:=
 (t.kids.zipIdx).foldl (fun s k=>
   if t.op=60∨t.op=61∨t.op=64∨(t.op=63∧k.2=0)∨(t.op=62∧k.2=1)then N k.1 w s else N k.1 { w with decl:=false } s) s
def yS(t:T)(w:Wh)(s:FS):FS:=
 if t.op=34 then pL t w s
 else if t.op=4 then HV N fu t { w with decl:=false } s
 else if t.op=6 then vM N t.kids (eF w (bF t.kids true []) s) (iJ 2 t.at' w (bF t.kids true []) s)
 else if t.op=21 then rN N t w s
 else if t.op=10∨t.op=11∨t.op=12 then zS N t w s
 else if t.op=20 then vM N t.kids (eF w (dT 5 (bB (cQ t 0)) []) s) (iJ 4 t.at' w (dT 5 (bB (cQ t 0)) []) s)
 else if t.op=3 then AS N t w s
 else if t.op=39 then(if t.n=3 then pL (cQ t 0) w s else vM N t.kids w s)
 else uQ N t w s
end
def nbS(fu:Nat):Nat→T→Wh→FS→FS
 |0=>fun _ _ s=>s
 |f+1=>yS (nbS fu f) fu
def mL(t:T):FS:=kL 0 t.at' ⟨-1,0,false⟩ (bF t.kids false []) ⟨[],[],0,[],[],[]⟩
def gS(f:Nat)(t:T):FS:=vM (nbS f f) t.kids ⟨0,0,false⟩ (mL t)
def fQ(l:List Sc):Nat:=(l.map fun s=>s.names.length).sum
def CW(l:List Sc)(a b:Nat):List Sc:=l.modify a fun s=>{ s with names:=s.names.modify b fun x=>{ x with held:=true } }
def AA(us:List Ux)(l:List Sc):List Sc:=us.foldl (fun l u=>if u.found=true∧u.fn≠oB l u.ts then CW l u.ts u.tb else l) l
end
section
open Go.RowKit Go.Vcg
theorem aF4(fn:Int)(l:List Sc):rD fn (l.take 0)=0:=by simp[rD]
theorem FL(fn:Int)(l:List Sc)(h:∀s∈l,s.names.length≤10000000)(k:Nat)(hl:l.length≤9000):rD fn (l.take k)≤90000000000:=by
 have h1:=aD1 fn (l.take k) (fun s hs=>h s (bE hs));rw[cM]at h1;omega
abbrev scs(ps:List (Sc×Value)):List Sc:=ps.map (·.1)
theorem mE{ps:List (Sc×Value)}{k:Nat}{y:Sc×Value}(h:ps[k]? =some y):(scs ps)[k]? =some y.1:=by rw[aX,h];rfl
attribute [local irreducible] iN rD gP findF G GC GQ GA eV Calls IntKind.wrap Int.decLt Int.decLe
section
variable(w:World)(μ:Mem)(hμ:MOk μ w)
include hμ
theorem MJ(x:ByteArray)(l:List Bd)(v:Value)(hv:BdV μ l v):bC 53 #[v,.string x] w (.int .i64 (match gP x l 0 with|some k=>(k:Int)|none=> -1)):=by
 obtain⟨A,c,rfl,h,hl⟩:=hv;generalize i:gP x l 0=R;refine aF Tryz.func53 rfl Tryz.ntmps53 (by simp) hμ ?_;try repeat' (refine KZ ?_)
 refine cD (ι:=Nat) (fun k=>k≤l.length∧gP x (l.drop k) k=R) (fun k=>l.length-k) (fun _=>μ) (fun k=>[(5,.int .i64 (k:Int)),(0,.slice A l.length c),(1,.string x)]) (fun _=>[]) 0 ⟨aN _,i⟩ (fun a w hs=>J5 hs) ?_;rintro k ⟨hk,e⟩;by_cases hlt:k<l.length
 ·obtain⟨ad,y,rfl,g,hm⟩:=h.get hlt;rw[IN g]at e;by_cases hn:y.name=x
  ·rw[if_pos hn]at e;subst e;try repeat' (first|refine KO ?_|(refine KV (b:=by first|exact U1 k|exact U4 hm) (c:=?_))|refine KZ ?_)
   all_goals exact aQ rfl rfl rfl
  ·rw[if_neg hn]at e;try repeat' (first|refine KO ?_|(refine KV (b:=by first|exact U1 k|exact U4 hm) (c:=?_))|refine KZ ?_)
   all_goals exact J2 (k+1) ⟨by omega,e⟩ (by omega)
 ·rw[cB (by omega)]at e;have f:R=none:=by rw[←e];unfold gP;rfl
  subst f;try repeat' (refine KZ ?_)
  all_goals exact aQ rfl rfl rfl
end
end
section
open Go.RowKit Go.Vcg
attribute [local irreducible] iN rD gP findF G GC GQ GA eV Calls IntKind.wrap Int.decLt Int.decLe
section
variable(w:World)(μ:Mem)(hμ:MOk μ w)
include hμ
theorem aBd(ps:List (Sc×Value))(A:Option Addr)(c:Nat)(r:ScR μ A ps)(at' :Int)(x:ByteArray):bC 13 #[.slice A ps.length c,.int .i64 at',.string x] w (yV (findF (scs ps) x (at'.toNat+1) at')):=by
 obtain⟨hS,hl,o⟩:=r;have q:(scs ps).length=ps.length:=aO ..;generalize hR:findF (scs ps) x (at'.toNat+1) at' =R;refine aF Tryz.func13 rfl Tryz.ntmps13 (by simp) hμ ?_;try repeat' (refine KZ ?_)
 refine cD (ι:=Nat×Int) (fun i=>findF (scs ps) x i.1 i.2=R∧(i.2<0∨i.2.toNat<i.1)) (fun i=>i.1) (fun _=>μ) (fun i=>[(0,.slice A ps.length c),(1,.int .i64 i.2),(2,.string x)]) (fun _=>[]) (at'.toNat+1,at') ⟨hR,.inr (by dsimp only;omega)⟩ (fun a w hs=>J5 hs) ?_;rintro⟨f,a⟩ ⟨e,hf⟩;dsimp only at e hf⊢;by_cases hin:0≤a∧a<ps.length
 ·obtain⟨k,rfl⟩:∃k:Nat,a=k:=⟨a.toNat,by omega⟩;have hlt:k<ps.length:=by omega
  obtain⟨f,rfl⟩:∃g,f=g+1:=⟨f-1,by omega⟩;obtain⟨ad,y,rfl,hy,hm⟩:=hS.get hlt;obtain⟨s,v⟩:=y;obtain⟨A2,c2,hv,p,t⟩:=o _ (aB hy);dsimp only at hv p t hm;subst hv;rw[ZK (mE hy)]at e;dsimp only at e;generalize hP:gP x s.names 0=P at e;try repeat' (first|refine KO ?_|(refine KV (b:=by first|exact U1 k|exact U4 hm) (c:=?_))|refine KZ ?_)
  refine cD (ι:=Nat) (fun j=>j≤s.names.length∧gP x (s.names.drop j) j=P) (fun j=>s.names.length-j) (fun _=>μ) (fun j=>[(25,.int .i64 (j:Int)),(24,.int .i64 (s.names.length:Int)),(23,.slice A2 s.names.length c2),(0,.slice (some ad) ps.length c),(1,.int .i64 (k:Int)),(2,.string x)]) (fun _=>[]) 0 ⟨aN _,hP⟩ (fun a w hs=>J5 hs) ?_;rintro j ⟨hj,h⟩;by_cases u:j<s.names.length
  ·obtain⟨ad2,z,rfl,hz,l⟩:=p.get u;rw[IN hz]at h;by_cases hn:z.name=x
   ·rw[if_pos hn]at h;subst h;subst e;try repeat' (first|refine KO ?_|(refine KV (b:=by first|exact U1 j|exact U4 l) (c:=?_))|refine KZ ?_|refine NB fun b=>?_)
    all_goals exact HI rfl (by repeat first|exact kW|refine jD (by exact cX rfl) ?_) rfl rfl
   ·rw[if_neg hn]at h;try repeat' (first|refine KO ?_|(refine KV (b:=by first|exact U1 j|exact U4 l) (c:=?_))|refine KZ ?_|refine NB fun b=>?_)
    all_goals exact J2 (j+1) ⟨by omega,h⟩ (by omega)
  ·rw[cB (by omega)]at h;have ab:P=none:=by rw[←h];unfold gP;rfl
   subst ab;dsimp only at e;by_cases hup:s.up≥(k:Int)
   ·rw[if_pos hup]at e;subst e;try repeat' (first|refine KO ?_|(refine KV (b:=by first|exact U1 k|exact U4 hm) (c:=?_))|refine KZ ?_)
    all_goals exact HI rfl (by repeat first|exact kW|refine jD (by exact cX rfl) ?_) rfl rfl
   ·rw[if_neg hup]at e;try repeat' (first|refine KO ?_|(refine KV (b:=by first|exact U1 k|exact U4 hm) (c:=?_))|refine KZ ?_)
    all_goals exact J2 (f,s.up) ⟨e,by dsimp only;omega⟩ (by dsimp only;omega)
 ·have aa:R=none:=by rw[←e];exact oH (by rw[q];exact hin)
  subst aa;by_cases h0:0≤a;all_goals try repeat' (refine KZ ?_)
  all_goals exact HI rfl (by repeat first|exact kW|refine jD (by exact cX rfl) ?_) rfl rfl
theorem MB(ps:List (Sc×Value))(A:Option Addr)(c:Nat)(r:ScR μ A ps)(at' :Int)(x:ByteArray):bC 30 #[.slice A ps.length c,.int .i64 at',.string x] w (yV (findF (scs ps) x (at'.toNat+1) at')):=by
 obtain⟨z,hl,o⟩:=r;have q:(scs ps).length=ps.length:=aO ..;generalize hR:findF (scs ps) x (at'.toNat+1) at' =R;refine aF Tryz.func30 rfl Tryz.ntmps30 (by simp) hμ ?_;try repeat' (refine KZ ?_)
 refine cD (ι:=Nat×Int) (fun i=>findF (scs ps) x i.1 i.2=R∧(i.2<0∨i.2.toNat<i.1)) (fun i=>i.1) (fun _=>μ) (fun i=>[(0,.slice A ps.length c),(1,.int .i64 i.2),(2,.string x)]) (fun _=>[]) (at'.toNat+1,at') ⟨hR,.inr (by dsimp only;omega)⟩ (fun a w hs=>J5 hs) ?_;rintro⟨f,a⟩ ⟨e,hf⟩;dsimp only at e hf⊢;by_cases hin:0≤a∧a<ps.length
 ·obtain⟨k,rfl⟩:∃k:Nat,a=k:=⟨a.toNat,by omega⟩;have hlt:k<ps.length:=by omega
  obtain⟨f,rfl⟩:∃g,f=g+1:=⟨f-1,by omega⟩;obtain⟨ad,y,rfl,u,hm⟩:=z.get hlt;obtain⟨s,v⟩:=y;have l:=o _ (aB u);have h:=fun w μc hw (hle:MLe μ μc)=>MJ w μc hw x s.names v (l.mono hle);have p:=l.one;dsimp only at hm p;rw[ZK (mE u)]at e;dsimp only at e;generalize gP x s.names 0=P at e h;cases P with
  | some j=>
    dsimp only at e h;subst e;try repeat' (first|refine KO ?_|refine K2 53 h ?_|(refine KV (b:=by first|exact U1 k|exact U4 hm) (c:=?_))|refine KZ ?_)
    all_goals exact HI rfl (by repeat first|exact kW|refine jD (by exact cX rfl) ?_) rfl rfl
  | none=>
    dsimp only at e h;by_cases hup:s.up≥(k:Int)
    ·rw[if_pos hup]at e;subst e;try repeat' (first|refine KO ?_|refine K2 53 h ?_|(refine KV (b:=by first|exact U1 k|exact U4 hm) (c:=?_))|refine KZ ?_)
     all_goals exact HI rfl (by repeat first|exact kW|refine jD (by exact cX rfl) ?_) rfl rfl
    ·rw[if_neg hup]at e;try repeat' (first|refine KO ?_|refine K2 53 h ?_|(refine KV (b:=by first|exact U1 k|exact U4 hm) (c:=?_))|refine KZ ?_)
     all_goals exact J2 (f,s.up) ⟨e,by dsimp only;omega⟩ (by dsimp only;omega)
 ·have t:R=none:=by rw[←e];exact oH (by rw[q];exact hin)
  subst t;by_cases h0:0≤a;all_goals try repeat' (refine KZ ?_)
  all_goals exact HI rfl (by repeat first|exact kW|refine jD (by exact cX rfl) ?_) rfl rfl
end
end
section
open Go.RowKit Go.Vcg
def lP(h c:Nat):List Bd→List Bd
 |[]=>[]
 |b::r=>if b.held=true then{ b with slot:=(h:Int) }::lP (h+1) c r else{ b with slot:=(c:Int) }::lP h (c+1) r
theorem aB1(b:Bd)(r:List Bd):iN (b::r)=iN r+if b.held=true then 1 else 0:=by
 unfold iN;rw[nZ]
theorem xX:∀(a b:List Bd) (h c:Nat),lP h c (a++b)=lP h c a++lP (h+iN a) (c+ (a.length-iN a)) b
 |[],b,h,c=>by simp[lP,iN]
 | x::a,b,h,c=>by
   have hl:=FP a;rw[aU,lP,lP,aB1,bH];by_cases e:x.held=true
   ·rw[if_pos e,if_pos e,if_pos e,xX a b,aU];congr 3
    ·omega
    ·omega
   ·rw[if_neg e,if_neg e,if_neg e,xX a b,aU];congr 3;omega
theorem tV:∀(l:List Bd) (h c:Nat),(lP h c l).length=l.length
 |[],_,_=>rfl
 | b::r,h,c=>by unfold lP;split<;>simp[tV r]
theorem MT{l:List Bd}{k:Nat}{b:Bd}(h:l[k]? =some b)(c:Nat):lP 0 c (l.take (k+1))=lP 0 c (l.take k)++[{ b with slot:=if b.held=true then(iN (l.take k):Int)else((c+ (k-iN (l.take k)):Nat):Int) }]:=by
 have hlt:=(List.getElem?_eq_some_iff.1 h).1;rw[cG,h,xX];congr 1;have:(l.take k).length=k:=by rw[cM];omega
 rw[this,nA,lP];split
 ·rename_i hb;simp[lP,hb]
 ·rename_i hb;simp[lP,hb]
def CK(pre:List Sc)(s:Sc):Sc:={ s with names:=lP 0 ((if s.fn=0 then 1 else 0)+rD s.fn pre) s.names }
def qY(pre:List Sc):List Sc→List Sc
 |[]=>[]
 |s::r=>CK pre s::qY (pre++[s]) r
theorem IR:∀(a b pre:List Sc),qY pre (a++b)=qY pre a++qY (pre++a) b
 |[],b,pre=>by simp[qY]
 | s::a,b,pre=>by rw[aU,qY,qY,IR a b,aU];simp
theorem aFr{l:List Sc}{k:Nat}{s:Sc}(h:l[k]? =some s):qY [] (l.take (k+1))=qY [] (l.take k)++[CK (l.take k) s]:=by
 rw[cG,h,IR];simp[qY]
theorem IQ:∀(l pre:List Sc),(qY pre l).length=l.length
 |[],_=>rfl
 |s::r,pre=>by simp[qY,IQ r]
attribute [local irreducible] iN rD gP findF lP qY CK G GC GQ GA eV Calls IntKind.wrap Int.decLt Int.decLe
def aV6(ps:List (Sc×Value))(μ:Mem)(v:Value):Prop:=∃A c qs,v=.slice A qs.length c∧ScR μ A qs∧scs qs=qY [] (scs ps)
end
section
open Go.RowKit Go.Vcg
theorem aDr(pre:List Sc)(s:Sc):CK pre s=⟨s.up,s.fn,s.kind,s.at',lP 0 ((if s.fn=0 then 1 else 0)+rD s.fn pre) s.names⟩:=rfl
theorem MS(h c:Nat)(l:List Bd):lP h c (l.take 0)=[]:=rfl
theorem aFq(l:List Sc):qY [] (l.take 0)=[]:=rfl
attribute [local irreducible] iN rD gP findF lP qY CK G GC GQ GA eV Calls IntKind.wrap Int.decLt Int.decLe
theorem PI(w:World)(μ:Mem)(hμ:MOk μ w)(ps:List (Sc×Value))(A:Option Addr)(c:Nat)(ar:ScR μ A ps):Calls Tryz.prog 52 #[.slice A ps.length c] w fun e w' =>∃v μ',e=.returned v∧vI w w' μ μ' ∧aV6 ps μ' v:=by
 obtain⟨hS,hl,aa⟩:=ar;have bc:(scs ps).length=ps.length:=aO ..;have au:∀s∈scs ps,s.names.length≤10000000:=fun s hs=>by obtain⟨p,hp,rfl⟩:=List.mem_map.1 hs;obtain⟨_,_,_,_,h⟩:=aa p hp;exact h.1
 refine aF Tryz.func52 rfl Tryz.ntmps52 (by simp) hμ ?_;try repeat' (refine KZ ?_)
 refine oN 43 5 ?_;refine cD (ι:=Nat×List (Sc×Value)×Mem×Value) (fun i=>i.1≤ps.length∧MLe μ i.2.2.1∧scs i.2.1=qY [] ((scs ps).take i.1)∧i.2.1.length=i.1∧∀q∈i.2.1,BdV i.2.2.1 q.1.names q.2) (fun i=>ps.length-i.1) (fun i=>i.2.2.1) (fun i=>[(4,.int .i64 (i.1:Int)),(3,i.2.2.2),(0,.slice A ps.length c)]) (fun i=>[.inr ⟨i.2.2.2,43,5,i.2.1.length,i.2.1.flatMap fF⟩]) (0,[],μ,.slice none 0 0) ⟨aN _,MLe.refl _,(aFq _).symm,rfl,fun q hq=>(by cases hq)⟩ (fun a w hs=>J5 hs) ?_;rintro⟨i,qs,μ1,vo⟩ ⟨hi,hle,ab,aq,hq⟩;dsimp only at hi hle ab aq hq⊢;refine gT 0 rfl ?_;rintro A1 c1 rfl bb;by_cases hlt:i<ps.length
 ·obtain ⟨ad, y,rfl,hy,aw⟩:=hS.get hlt;have hm:=aw.mono hle;have a8:=hS.mono hle;have r:=aFr (mE hy);rw[←ab]at r;obtain⟨s,v⟩:=y;obtain⟨A2,c2,hv,an,a6⟩:=aa _ (aB hy);dsimp only at hv an a6 hm r;subst hv;have hB:=an.mono hle;obtain⟨n0,u,bd⟩:∃n0:Nat,(if s.fn=0 then 1 else 0:Nat)=n0∧n0≤1:=⟨_,rfl,by split<;>omega⟩;rw[aDr,u]at r;try repeat' (first|((with_reducible show GC _ _ (Code.seq (Code.seq (Code.region 7 _ _) _) _) _ _ _ _);(apply dX))|refine KO ?_|(refine KV (b:=by first|exact U1 i|exact U4 hm) (c:=?_))|refine KZ ?_|refine NB fun b=>?_)
  obtain⟨bs,al⟩:∃y,y=b:=⟨_,rfl⟩;rw[←al];clear al;refine gcs ?_;refine iT (ι:=Unit) (fun _=>True) (fun _=>μ1) (fun _=>[(6,.int .i64 (n0:Int)),(5,.pointer (some ⟨bs,0,none⟩)),(4,.int .i64 (i:Int)),(3,.slice A1 qs.length c1),(0,.slice (some ad) ps.length c)]) (fun _=>[.inl ⟨bs,43,5,idx 0 [.int .i64 s.up,.int .i64 s.fn,.int .i64 s.kind,.int .i64 s.at',.slice A2 s.names.length c2]⟩,.inr ⟨.slice A1 qs.length c1,43,5,qs.length,qs.flatMap fF⟩]) ?_ ?_
  ·by_cases h0:s.fn=0
   ·rw[if_pos h0]at u;subst u;try repeat' (refine KZ ?_)
    all_goals exact J1 () trivial
   ·rw[if_neg h0]at u;subst u;try repeat' (refine KZ ?_)
    all_goals exact J1 () trivial
  rintro⟨⟩-;try repeat' (refine KZ ?_)
  refine cD (ι:=Nat×Nat) (fun q=>q.1≤i∧q.2=rD s.fn ((scs ps).take q.1)) (fun q=>i-q.1) (fun _=>μ1) (fun q=>[(7,.int .i64 (q.1:Int)),(6,.int .i64 ((n0+q.2:Nat):Int)),(5,.pointer (some ⟨bs,0,none⟩)),(4,.int .i64 (i:Int)),(3,.slice A1 qs.length c1),(0,.slice (some ad) ps.length c)]) (fun _=>[.inl ⟨bs,43,5,idx 0 [.int .i64 s.up,.int .i64 s.fn,.int .i64 s.kind,.int .i64 s.at',.slice A2 s.names.length c2]⟩,.inr ⟨.slice A1 qs.length c1,43,5,qs.length,qs.flatMap fF⟩]) (0,0) ⟨aN _,(aF4 _ _).symm⟩ (fun a w hs=>J5 hs) ?_;rintro⟨k,n⟩ ⟨hk,hn⟩;dsimp only at hk hn⊢;have hb:=FL s.fn (scs ps) au k (by omega);rw[←hn]at hb;by_cases bg:k<i
  ·obtain⟨adz,z,e0,hz,ae⟩:=a8.get (show k<ps.length by omega);cases e0;have l:=QV (fn:=s.fn) (mE hz);rw[←hn]at l;obtain⟨zs,zv⟩:=z;have ai:=(aa _ (aB hz)).mono hle;dsimp only at l ai;have ao:=fun w μc hw (hle:MLe μ1 μc)=>IL w μc hw zs zv (ai.mono hle);obtain⟨A3,c3,e3,bi,bf⟩:=ai;subst e3;have bh:=FP zs.names;try repeat' (refine KZ ?_)
   by_cases hf:zs.fn=s.fn
   ·rw[if_pos hf]at l;refine aZ 8 _ (by kernel_rfl) rfl (aD (aD aT)) ?_;all_goals(refine DD 0 ?_;refine DD 1 ?_;refine D2 2 rfl (by exact U1 k) ?_;refine DD 3 ?_;refine D2 4 rfl (by exact U4 ae) ?_;refine D1 5 ?_;refine DD 6 ?_;refine D1 7 ?_;refine D8 ?_)
    all_goals try repeat' (refine KZ ?_)
    all_goals refine aZ 15 _ (by kernel_rfl) rfl (aD (aD aT)) ?_
              all_goals(refine DD 0 ?_;refine DD 1 ?_;refine DD 2 ?_;refine D2 3 rfl (by exact U1 k) ?_;refine DD 4 ?_;refine D2 5 rfl (by exact U4 ae) ?_;refine D1 6 ?_;refine DD 7 ?_;refine DD 8 ?_;refine DD 9 ?_;refine D2 10 rfl (by exact U1 k) ?_;refine D2 11 rfl (by exact U4 ae) ?_;refine D3 12 ?_;refine D5 ?_;refine K2 58 ao ?_;refine D9 ?_;refine DD 13 ?_;refine DD 14 ?_;refine D8 ?_)
    all_goals try repeat' (refine KZ ?_)
    all_goals rw[show((n0+n:Nat):Int)+ (zs.names.length:Int)- (iN zs.names:Int)=((n0+ (n+ (zs.names.length-iN zs.names)):Nat):Int)by omega]
    all_goals exact J2 (k+1,n+ (zs.names.length-iN zs.names)) ⟨by dsimp only;omega,l.symm⟩ (by dsimp only;omega)
   ·rw[if_neg hf]at l;refine aZ 8 _ (by kernel_rfl) rfl (aD (aD aT)) ?_;all_goals(refine DD 0 ?_;refine DD 1 ?_;refine D2 2 rfl (by exact U1 k) ?_;refine DD 3 ?_;refine D2 4 rfl (by exact U4 ae) ?_;refine D1 5 ?_;refine DD 6 ?_;refine D1 7 ?_;refine D8 ?_)
    all_goals try repeat' (refine KZ ?_)
    all_goals exact J2 (k+1,n) ⟨by dsimp only;omega,l.symm⟩ (by dsimp only;omega)
  have ak:k=i:=by omega
  subst ak;rw[←hn]at r;try repeat' (refine KZ ?_)
  refine oN 40 4 ?_;refine cD (ι:=Nat×Nat×List Bd×Value) (fun q=>q.1≤s.names.length∧q.2.1=iN (s.names.take q.1)∧q.2.2.1=lP 0 (n0+n) (s.names.take q.1)∧q.2.2.1.length=q.1) (fun q=>s.names.length-q.1) (fun _=>μ1) (fun q=>[(10,.int .i64 (q.1:Int)),(9,.int .i64 (q.2.1:Int)),(8,q.2.2.2),(6,.int .i64 ((n0+n+ (q.1-q.2.1):Nat):Int)),(5,.pointer (some ⟨bs,0,none⟩)),(4,.int .i64 (k:Int)),(3,.slice A1 qs.length c1),(0,.slice (some ad) ps.length c)]) (fun q=>.inr ⟨q.2.2.2,40,4,q.2.2.1.length,q.2.2.1.flatMap mI⟩::[.inl ⟨bs,43,5,idx 0 [.int .i64 s.up,.int .i64 s.fn,.int .i64 s.kind,.int .i64 s.at',.slice A2 s.names.length c2]⟩,.inr ⟨.slice A1 qs.length c1,43,5,qs.length,qs.flatMap fF⟩]) (0,0,[],.slice none 0 0) ⟨aN _,(yC _).symm,(MS _ _ _).symm,rfl⟩ (fun a w hs=>J5 hs) ?_;rintro⟨j,h,bl,vb⟩ ⟨hj,hh,f,a1⟩;dsimp only at hj hh f a1⊢;have ay:=yD s.names j;rw[←hh]at ay;refine gT 0 rfl ?_;rintro A4 c4 rfl ba;by_cases ax:j<s.names.length
  ·obtain⟨adx,x,rfl,hx,av⟩:=hB.get ax;have g:=MT hx (n0+n);have o:=yE hx;rw[←hh,←f]at g;rw[←hh]at o;obtain⟨nm,kd,hd,sl⟩:=x;have ag:gF μ1 (adx.add (j*4)) [.string nm,.int .i64 kd,.bool hd,.int .i64 sl]:=av;dsimp only at g o;cases hd
   ·rw[if_neg (by simp)]at o;rw[if_neg (by simp)]at g;try repeat' (first|refine KO ?_|(((with_reducible apply qA);(iterate 3 exact rfl);(repeat first|with_reducible exact fO|with_reducible apply gD);(iterate 6 exact rfl);(((with_reducible apply kB);exact rfl;(repeat with_reducible exact fW);exact rfl));(exact rfl);((exact gI (by(repeat first|with_reducible exact fZ|((with_reducible apply eW);(exact rfl))))));omega;omega;intro v))|(refine KV (b:=by first|exact U1 j|exact U4 ag) (c:=?_))|refine KZ ?_|refine NB fun b=>?_)
    all_goals rw[show((n0+n+ (j-h):Nat):Int)+1=((n0+n+ (j+1-h):Nat):Int)by omega]
    all_goals refine gJ (n' :=(bl++[(⟨nm,kd,false,((n0+n+ (j-h):Nat):Int)⟩:Bd)]).length) (xs' :=(bl++[(⟨nm,kd,false,((n0+n+ (j-h):Nat):Int)⟩:Bd)]).flatMap mI) 2 rfl (by simp) (by simp) ?_
    all_goals exact J2 (j+1,h,bl++[(⟨nm,kd,false,((n0+n+ (j-h):Nat):Int)⟩:Bd)],v) ⟨by dsimp only;omega,o.symm,g.symm,by simp;omega⟩ (by dsimp only;omega)
   ·rw[if_pos rfl]at o;rw[if_pos rfl]at g;try repeat' (first|refine KO ?_|(((with_reducible apply qA);(iterate 3 exact rfl);(repeat first|with_reducible exact fO|with_reducible apply gD);(iterate 6 exact rfl);(((with_reducible apply kB);exact rfl;(repeat with_reducible exact fW);exact rfl));(exact rfl);((exact gI (by(repeat first|with_reducible exact fZ|((with_reducible apply eW);(exact rfl))))));omega;omega;intro v))|(refine KV (b:=by first|exact U1 j|exact U4 ag) (c:=?_))|refine KZ ?_|refine NB fun b=>?_)
    all_goals rw[show n0+n+ (j-h)=n0+n+ (j+1- (h+1))by omega]
    all_goals refine gJ (n' :=(bl++[(⟨nm,kd,true,(h:Int)⟩:Bd)]).length) (xs' :=(bl++[(⟨nm,kd,true,(h:Int)⟩:Bd)]).flatMap mI) 2 rfl (by simp) (by simp) ?_
    all_goals exact J2 (j+1,h+1,bl++[(⟨nm,kd,true,(h:Int)⟩:Bd)],v) ⟨by dsimp only;omega,o.symm,g.symm,by simp;omega⟩ (by dsimp only;omega)
  ·obtain rfl:j=s.names.length:=by omega
   rw[aK (aC _)]at f;refine qN rfl ?_;intro μ2 ah af;have a7:=fK (enc:=mI) af rfl (by simp) rfl;have az:=Bk.cap af;try repeat' (first|refine KZ ?_|(((with_reducible apply qA);(iterate 3 exact rfl);(repeat first|with_reducible exact fO|with_reducible apply gD);(iterate 6 exact rfl);(((with_reducible apply kB);exact rfl;(repeat with_reducible exact fW);exact rfl));exact rfl;exact gI (by(repeat first|with_reducible exact fZ|((with_reducible apply eW);exact rfl)));omega;omega;intro v))|refine NB fun b=>?_)
   all_goals refine gJ (n' :=(qs++[((⟨s.up,s.fn,s.kind,s.at',bl⟩:Sc),Value.slice A4 bl.length c4)]).length) (xs' :=(qs++[((⟨s.up,s.fn,s.kind,s.at',bl⟩:Sc),Value.slice A4 bl.length c4)]).flatMap fF) 2 rfl (by simp) (by simp) ?_
   all_goals refine J2 (k+1,qs++[((⟨s.up,s.fn,s.kind,s.at',bl⟩:Sc),Value.slice A4 bl.length c4)],μ2,v) ⟨by dsimp only;omega,hle.trans ah,?_,by simp;omega,fun q t=>?_⟩ (by dsimp only;omega)
   ·dsimp only;rw[r,←f];simp[scs]
   ·rcases List.mem_append.1 t with t|t
    ·exact(hq q t).mono ah
    ·cases aJ.1 t;exact⟨A4,c4,rfl,a7,by dsimp only;omega⟩
 ·obtain rfl:i=ps.length:=by omega
  rw[aK (by omega)]at ab;try repeat' (refine KZ ?_)
  exact sC rfl (by exact cX rfl) (fun μ' aj hL=>⟨A1,c1,qs,rfl,⟨fK (enc:=fF) (hL _ (aE ..)) rfl (by simp) rfl,by omega,fun q ap=>(hq q ap).mono aj⟩,ab⟩)
end
section
open Go.RowKit Go.Vcg Go.MapKept
def mkM:List (Int×Nat)→Nat→List MapEntry
 |[],_=>[]
 |(f,n)::r,j=>MapEntry.mk (.int .i64 f) (.int .i64 (n:Int)) j::mkM r (j+1)
def tX(f:Int):List (Int×Nat)→Nat→Option (Nat×Nat)
 |[],_=>none
 |(g,n)::r,i=>if f=g then some (i,n)else tX f r (i+1)
def getM(f:Int)(M:List (Int×Nat)):Nat:=match tX f M 0 with
 |some (_,n)=>n
 |none=>0
def xW(f:Int)(n:Nat):List (Int×Nat)→List (Int×Nat)
 |[]=>[(f,n)]
 |(g,k)::r=>if f=g then(f,n)::r else(g,k)::xW f n r
theorem GF(f:Int):∀(M:List (Int×Nat)) (j i:Nat),Instr.findNow (.int .i64) (.int .i64 f) (mkM M j) i=some ((tX f M i).map fun p=>(p.1,.int .i64 (p.2:Int)))
 |[],j,i=>by simp[mkM,Instr.findNow,tX]
 | (g,n)::r,j,i=>by
   have ih:=GF f r (j+1) (i+1);unfold mkM Instr.findNow tX;by_cases h:f=g
   ·subst h;simp[Instr.sameNow]
   ·have hb:(f==g)=false:=by simpa using h
    simp[Instr.sameNow,hb,h,ih]
theorem aDy:∀(M:List (Int×Nat)) (f:Int) (n j:Nat),mkM (M++[(f,n)]) j=mkM M j++[MapEntry.mk (.int .i64 f) (.int .i64 (n:Int)) (j+M.length)]
 |[],f,n,j=>by simp[mkM]
 | (g,k)::r,f,n,j=>by have:=aDy r f n (j+1);simp only[aU,mkM,this,bH];rw[show j+1+r.length=j+ (r.length+1)by omega]
theorem aD3{f:Int}:∀{M:List (Int×Nat)} {i p n:Nat},tX f M i=some (p,n)→i≤p
 |[],_,_,_,h=>by cases h
 | (g,k)::r,i,p,n,h=>by
   unfold tX at h;split at h
   ·cases h;exact aC _
   ·have:=aD3 h;omega
theorem aDx{f:Int}{n m:Nat}:∀{M:List (Int×Nat)} {j i p:Nat},tX f M i=some (p,m)→(mkM M j).modify (p-i) (fun e=>{ e with key:=.int .i64 f,val:=.int .i64 (n:Int) })=mkM (xW f n M) j∧((mkM M j)[p-i]?).map (·.key)=some (.int .i64 f)
 |[],_,_,_,h=>by cases h
 | (g,k)::r,j,i,p,h=>by
   unfold tX at h;by_cases hg:f=g
   ·rw[if_pos hg]at h;cases h;subst hg;simp[mkM,xW]
   ·rw[if_neg hg]at h;have h1:=aD3 h;obtain⟨e1,e2⟩:=aDx (n:=n) (j:=j+1) h;obtain⟨q,hq⟩:∃q,p-i=q+1:=⟨p-i-1,by omega⟩;have a:p- (i+1)=q:=by omega
    rw[a]at e1 e2;rw[hq];simp only[mkM,xW,if_neg hg,List.modify_succ_cons,e1,bW,e2,and_self]
theorem QL{f:Int}{n:Nat}:∀{M:List (Int×Nat)} {i:Nat},tX f M i=none→xW f n M=M++[(f,n)]
 |[],_,_=>rfl
 | (g,k)::r,i,h=>by
   unfold tX at h;by_cases hg:f=g
   ·rw[if_pos hg]at h;cases h
   ·rw[if_neg hg]at h;unfold xW;rw[if_neg hg,QL h];rfl
theorem YP(f g:Int)(n:Nat):∀(M:List (Int×Nat)) (i:Nat),(tX g (xW f n M) i).map (·.2)=if g=f then some n else(tX g M i).map (·.2)
 | [],i=>by
   unfold xW tX;by_cases h:g=f
   ·simp[h]
   ·simp[h,tX]
 | (a,k)::r,i=>by
   have ih:=YP f g n r (i+1);unfold xW;by_cases h:f=a
   ·rw[if_pos h];unfold tX;by_cases hg:g=f
    ·rw[if_pos hg,if_pos hg];rfl
    ·rw[if_neg hg,if_neg hg,if_neg (fun e=>hg (e.trans h.symm))]
   ·rw[if_neg h];unfold tX;by_cases hg:g=a
    ·rw[if_pos hg,if_pos hg,if_neg (fun e=>h (e.symm.trans hg))]
    ·rw[if_neg hg,if_neg hg,ih]
theorem UJ(f:Int)(M:List (Int×Nat)):getM f M=((tX f M 0).map (·.2)).getD 0:=by
 unfold getM;cases tX f M 0 with
 |none=>rfl
 |some p=>rfl
theorem aJ4(f g:Int)(n:Nat)(M:List (Int×Nat)):getM g (xW f n M)=if g=f then n else getM g M:=by
 rw[UJ,UJ,YP];split<;>rfl
end
end Go.Proofs.YtlllalmkkaolfaaGreatDoor
namespace Go.Vcg
open Go.RowKit
section
variable{P:Program}{X:Ctx}{ops:Array Oper}{Q:Exit→Act→World→Prop}{rest:List Oper}{μ:Mem}{l:bS}{L:List Bk}
variable{ty:TypeId}{pos:String}{af:Array Edge}{gd:Option (Nat×Bool)}{ds:Option Nat}
theorem lU{x q:Operand}{t:TypeId}{o1 o2 n g cap m e s:Nat}{xs:List Value}{v:Value}(i:Nat)(hw:iF ops l ⟨none,.store t q x,ty,pos,af,gd⟩=some true)(b:jN P t=some n)
 (hi:iI L i=some (.inr ⟨.slice (some ⟨g,0,none⟩) m cap,e,s,m,xs⟩))(hq:ev l q=some (.pointer (some ((Addr.add ⟨g,0,none⟩ o1).add o2))))(c:ev l x=some v)(hlen:v.cells.toList.length=n)(hone:v.cells.toList.all (·.oneCell')=true)
 (a:o1+o2+n≤xs.length)
 (h:G P X ops Q rest μ l (fT L i (.inr ⟨.slice (some ⟨g,0,none⟩) m cap,e,s,m,xs.take (o1+o2)++v.cells.toList++xs.drop (o1+o2+n)⟩))):G P X ops Q (⟨none,.store t q x,ty,pos,af,gd⟩::rest) μ l L:=
 oT i hw b hi (hq.trans (by rw[oD])) c hlen hone a h
theorem eZ{x:Operand}{v:Value}{t:TypeId}{g n cap o1 o2:Nat}{e s:TypeId}{xs:List Value}(i:Nat)(a:pN P t=some false)
 (hi:iI L i=some (.inr ⟨.slice (some ⟨g,0,none⟩) n cap,e,s,n,xs⟩))(b:ev l x=some (.pointer (some ((Addr.add ⟨g,0,none⟩ o1).add o2))))(hv:xs[o1+o2]? =some v):Val P μ l L ⟨ds,.load t x,ty,pos,af,gd⟩ v:=
 qK i a hi (b.trans (by rw[oD])) hv
end
theorem fH:∀L:List Bk,Sel L L
 |[]=>.nil _
 |x::r=>fA (kZ.refl x) (fH r)
theorem DK:∀a b:List Bk,splitB a.length (a++b)=some (a,b)
 |[],b=>rfl
 | x::a,b=>by
   show(match splitB a.length (a++b)with|some (p,q)=>some (x::p,q)|none=>none)=_
   rw[DK a b]
end Go.Vcg
namespace Go.Proofs.YtlllalmkkaolfaaGreatDoor
open Go.RowKit Go.Vcg Go.MapKept
theorem lQ{α:Type}{enc:α→List Value}{s:Nat}(he:∀x,(enc x).length=s):∀(xs:List α) (i k:Nat) (x:α),xs[i]? =some x→k<s→(xs.flatMap enc)[i*s+k]? =(enc x)[k]?
 |[],i,k,x,h,_=>by simp at h
 | y::r,0,k,x,h,hk=>by cases h;rw[bU,aV (by rw[he];omega)];congr 1;omega
 | y::r,i+1,k,x,h,hk=>by rw[bU,aP (by rw[he,eI];omega),he,←lQ he r i k x h hk];congr 1;rw[eI];omega
theorem oZ{α:Type}{enc:α→List Value}{s:Nat}(he:∀x,(enc x).length=s){vs:List Value}{k n:Nat}(hk:k+n≤s){y:α}:∀(xs:List α) (i:Nat) (x:α),xs[i]? =some x→enc y=(enc x).take k++vs++(enc x).drop (k+n)→
 (xs.flatMap enc).take (i*s+k)++vs++(xs.flatMap enc).drop (i*s+k+n)=(xs.set i y).flatMap enc
 |[],i,x,h,_=>by simp at h
 | z::r,0,x,h,a=>by cases h;rw[jI,bU,bU,kS,bG,jH (by rw[he];omega),List.drop_append_of_le_length (by rw[he];omega),a];simp
 | z::r,i+1,x,h,a=>by have ih:=oZ he (vs:=vs) hk r i x h a;rw[kX,bU,bU,←ih,eI,oP,show i*s+s+k=(enc z).length+ (i*s+k)by rw[he];omega,List.take_length_add_append,show(enc z).length+ (i*s+k)+n=(enc z).length+ (i*s+k+n)by omega,List.drop_length_add_append];simp
theorem RU:∀l:List Bd,(l.flatMap mI).length=l.length*4
 |[]=>rfl
 | b::r=>by have:=RU r;simp only[bU,aI,bH,bM,this];omega
abbrev Fm:=Value×List Bd
abbrev GG(f:Fm):Bk:=.inr ⟨f.1,40,4,f.2.length,f.2.flatMap mI⟩
def iB(fs:List Fm):List Bk:=fs.map GG
theorem XA{f:Int}{n:Nat}:∀{M:List (Int×Nat)} {i:Nat} {p:Nat×Nat},tX f M i=some p→(xW f n M).length=M.length
 |[],_,_,h=>by cases h
 | (g,k)::r,i,p,h=>by
   unfold tX at h;unfold xW;by_cases hg:f=g
   ·rw[if_pos hg];rfl
   ·rw[if_neg hg]at h⊢;simp only[bH,XA h]
theorem AL{fs:List Fm}{i:Nat}{f:Fm}(h:fs[i]? =some f):(iB fs)[i]? =some (GG f):=by unfold iB;rw[aX,h];rfl
theorem OC(fs:List Fm)(i:Nat)(f:Fm):iB (fs.set i f)=(iB fs).set i (GG f):=by unfold iB;rw[jS]
theorem OD(fs:List Fm):(iB fs).length=fs.length:=aO ..
def aC4(ps:List Sc)(fs0:List Fm)(i:Nat)(fs:List Fm):Prop:=fs.length=fs0.length∧∀(j:Nat) (f0:Fm) (s:Sc),fs0[j]? =some f0→ps[j]? =some s→fs[j]? =some (f0.1,if j<i then(CK (ps.take j) s).names else f0.2)
theorem aG5{ps:List Sc}{fs0 fs:List Fm}{i:Nat}{f0:Fm}{s:Sc}(h:aC4 ps fs0 i fs)(h0:fs0[i]? =some f0)(hs:ps[i]? =some s):aC4 ps fs0 (i+1) (fs.set i (f0.1,(CK (ps.take i) s).names)):=by
 refine⟨by rw[fU];exact h.1,fun j f t hf ht=>?_⟩;have hlt:i<fs.length:=by rw[h.1];exact(List.getElem?_eq_some_iff.1 h0).1
 by_cases a:i=j
 ·subst a;rw[h0]at hf;rw[hs]at ht;cases hf;cases ht;rw[jM hlt,if_pos (by omega)]
 ·rw[List.getElem?_set_ne a,h.2 j f t hf ht];congr 2;by_cases h2:j<i
  ·rw[if_pos h2,if_pos (by omega)]
  ·rw[if_neg h2,if_neg (by omega)]
theorem aM6{l:List Bd}{k:Nat}{b:Bd}(h:l[k]? =some b)(c:Nat):(lP 0 c (l.take k)++l.drop k).set k { b with slot:=if b.held=true then(iN (l.take k):Int)else((c+ (k-iN (l.take k)):Nat):Int) }=lP 0 c (l.take (k+1))++l.drop (k+1):=by
 obtain⟨h1,h2⟩:=List.getElem?_eq_some_iff.1 h;have hlen:(lP 0 c (l.take k)).length=k:=by rw[tV,cM];omega
 rw[MT h,List.set_append_right _ _ (by omega),hlen,cK,eE h1,jI,bA];rfl
theorem aM8{l:List Bd}{k:Nat}{b:Bd}(h:l[k]? =some b)(c:Nat):(lP 0 c (l.take k)++l.drop k)[k]? =some b:=by
 have hlt:=(List.getElem?_eq_some_iff.1 h).1;have hlen:(lP 0 c (l.take k)).length=k:=by rw[tV,cM];omega
 rw[aP (by omega),hlen,cK,fP,bZ];exact h
theorem aM7(l:List Bd)(k c:Nat):(lP 0 c (l.take k)++l.drop k).length=l.length:=by
 rw[aI,tV,←aI,dN]
theorem aJb{P:Program}{et:TypeId}(a:oL P et=some (.int .i64 0))(f:Int)(M:List (Int×Nat)):∃ok,qU P et (Instr.findNow (.int .i64) (.int .i64 f) (mkM M 0) 0)=some (.int .i64 ((getM f M:Nat):Int),ok):=by
 rw[GF];unfold getM;cases tX f M 0 with
 |none=>exact⟨false,by simp[qU,a]⟩
 |some p=>exact⟨true,rfl⟩
def base(ps:List Sc)(i:Nat)(f:Int):Nat:=(if f=0 then 1 else 0)+rD f (ps.take i)
attribute [local irreducible] iB base iN rD gP findF lP qY CK G GC GQ GA eV Calls IntKind.wrap Int.decLt Int.decLe
theorem XJ(ps:List Sc)(cs:List (Sc×Value))(fs:List Fm)(g cap:Nat)(w:World)(μ:Mem)(hμ:MOk μ w)(aw:scs cs=ps)(hlen:fs.length=cs.length)(hl:ps.length≤9000)(au:∀s∈ps,s.names.length≤10000000)
 (ao:∀(j:Nat) (c:Sc×Value) (f:Fm),cs[j]? =some c→fs[j]? =some f→c.2=f.1∧f.2=c.1.names)
 (hO:Go.Vcg.Own μ (.inr ⟨.slice (some ⟨g,0,none⟩) cs.length cap,43,5,cs.length,cs.flatMap fF⟩::iB fs) w):
 Calls Tryz.prog 36 #[.slice (some ⟨g,0,none⟩) cs.length cap] w fun e w' =>∃(v:Value) (μ' :Mem) (i:List Fm),e=.returned v∧mW (lH (.inr ⟨.slice (some ⟨g,0,none⟩) cs.length cap,43,5,cs.length,cs.flatMap fF⟩::iB fs)) w w' μ (.inr ⟨.slice (some ⟨g,0,none⟩) cs.length cap,43,5,cs.length,cs.flatMap fF⟩::iB i) μ' ∧(v=.slice (some ⟨g,0,none⟩) cs.length cap∧aC4 ps fs ps.length i):=by
 have ax:=dW hO.diff;have bd:ps.length=cs.length:=by rw[←aw];exact aO ..
 have av:∀x:Sc×Value,(fF x).length=5:=fun _=>rfl;have ag:∀x:Bd,(mI x).length=4:=fun _=>rfl;refine cI Tryz.func36 rfl Tryz.ntmps36 (by simp) hμ hO ?_;try repeat' (first|(((with_reducible apply FY);exact .inl rfl;(iterate 6 exact rfl);exact rfl;(repeat with_reducible exact uL);exact rfl))|refine KZ ?_|((with_reducible apply UN);exact rfl;exact rfl;intro b))
 obtain⟨bm,az⟩:∃y,y=b:=⟨_,rfl⟩;rw[←az];clear az;refine cD (ι:=Nat×List (Int×Nat)×List Fm) (fun q=>q.1≤cs.length∧(∀f,getM f q.2.1=base ps q.1 f)∧aC4 ps fs q.1 q.2.2) (fun q=>cs.length-q.1) (fun _=>μ) (fun q=>[(12,.int .i64 (q.1:Int)),(11,.int .i64 (cs.length:Int)),(3,.map (some bm)),(0,.slice (some ⟨g,0,none⟩) cs.length cap)]) (fun q=>.mp ⟨bm,mkM q.2.1 0,(q.2.1:List (Int×Nat)).length⟩::.inr ⟨.slice (some ⟨g,0,none⟩) cs.length cap,43,5,cs.length,cs.flatMap fF⟩::iB q.2.2) (0,[(0,1)],fs) ⟨aN _,fun f=>by
  rw[base,jW,rD,UJ,tX];by_cases h:f=0
  ·rw[if_pos h,if_pos h];rfl
  ·rw[if_neg h,if_neg h];rfl,rfl,fun j f0 s h1 h2=>by rw[if_neg (by omega)];exact h1⟩ (fun a w hs=>hs.sel PU (fA (kZ.refl _) (fA (kZ.refl _) (fH _)))) ?_
 rintro⟨i,M,fs2⟩ ⟨hi,hM,hF⟩;dsimp only at hi hM hF⊢;by_cases hlt:i<cs.length
 ·obtain⟨cc,hc⟩:∃cc,cs[i]? =some cc:=⟨_,aA hlt⟩;obtain⟨f0,an⟩:∃f0,fs[i]? =some f0:=⟨_,aA (by omega)⟩;have ab:ps[i]? =some cc.1:=by rw[←aw];exact mE hc
  obtain⟨aj,ap⟩:=ao i cc f0 hc an;have af:=hF.2 i f0 cc.1 an ab;rw[if_neg (by omega),ap]at af;obtain⟨s,v⟩:=cc;dsimp only at aj ap ab af;rw[←aj]at af;have bc:=au s (aB ab);refine rH (lG (F:=[_,_]) (AL af)) ?_;obtain⟨R,hR⟩:∃R,(iB fs2).eraseIdx i=R:=⟨_,rfl⟩;rw[hR];dsimp only[aU,aY,GG];refine gT 0 rfl ?_;rintro A4 c4 rfl ar;have ah:(cs.flatMap fF)[i*5+4]? =some (.slice A4 s.names.length c4):=by rw[lQ av cs i 4 _ hc (by omega)];rfl
  have ay:(cs.flatMap fF)[i*5+1]? =some (.int .i64 s.fn):=by rw[lQ av cs i 1 _ hc (by omega)];rfl
  try repeat' (first|refine KO ?_|(refine KV (b:=by first|exact U1 i|((with_reducible apply eZ 2);(iterate 3 exact rfl);exact ah)) (c:=?_))|refine KZ ?_)
  have bf:base ps i s.fn≤90000000001:=by have:=FL s.fn ps au i hl;unfold base;split<;>omega
  refine cD (ι:=Nat×Nat×List (Int×Nat)×List Bd) (fun q=>q.1≤s.names.length∧q.2.1=iN (s.names.take q.1)∧(∀f,getM f q.2.2.1=base ps i f+if f=s.fn then q.1-q.2.1 else 0)∧q.2.2.2=lP 0 (base ps i s.fn) (s.names.take q.1)++s.names.drop q.1) (fun q=>s.names.length-q.1) (fun _=>μ) (fun q=>[(21,.int .i64 (q.1:Int)),(20,.int .i64 (s.names.length:Int)),(5,.int .i64 (q.2.1:Int)),(4,.int .i64 (i:Int)),(12,.int .i64 (i:Int)),(11,.int .i64 (cs.length:Int)),(3,.map (some bm)),(0,.slice (some ⟨g,0,none⟩) cs.length cap)]) (fun q=>.inr ⟨.slice A4 s.names.length c4,40,4,s.names.length,q.2.2.2.flatMap mI⟩::.mp ⟨bm,mkM q.2.2.1 0,(q.2.2.1:List (Int×Nat)).length⟩::.inr ⟨.slice (some ⟨g,0,none⟩) cs.length cap,43,5,cs.length,cs.flatMap fF⟩::R) (0,0,M,s.names) ⟨aN _,(yC _).symm,fun f=>by rw[hM f];split<;>simp,by rw[MS,pB,aY]⟩ (fun a w hs=>hs.sel PU (fH _)) ?_;rintro⟨k,h,M2,bl⟩ ⟨hk,hh,ae,u⟩;dsimp only at hk hh ae u⊢;have ba:=yD s.names k;rw[←hh]at ba;have ai:bl.length=s.names.length:=by rw[u];exact aM7 _ _ _
  by_cases a6:k<s.names.length
  ·rcases ar.form with⟨-,h0,-⟩|⟨g4,rfl⟩
   ·exfalso;omega
   obtain⟨x,hx⟩:∃x,s.names[k]? =some x:=⟨_,aA a6⟩;have l:=aM6 hx (base ps i s.fn);have aa:=aM8 hx (base ps i s.fn);have t:=yE hx;rw[←u,←hh]at l;rw[←u]at aa;rw[←hh]at t;obtain⟨nm,kd,hd,sl⟩:=x;dsimp only at l t;have r:(bl.flatMap mI)[k*4+2]? =some (.bool hd):=by rw[lQ ag bl k 2 _ aa (by omega)];rfl
   have al:=RU bl;cases hd
   ·rw[if_neg (by simp)]at l t;obtain⟨ok,o⟩:=aJb (P:=Tryz.prog) (et:=3) (by kernel_rfl) s.fn M2;have ak:=ae s.fn;rw[if_pos rfl]at ak;rw[ak]at o;have hJ:∀f,getM f (xW s.fn (base ps i s.fn+ (k-h)+1) M2)=base ps i f+if f=s.fn then(k+1)-h else 0:=fun f=>by
     rw[aJ4];by_cases hf:f=s.fn
     ·rw[if_pos hf,if_pos hf,hf];omega
     ·rw[if_neg hf,if_neg hf,ae f,if_neg hf]
    cases z:tX s.fn M2 0 with
    | some pm=>
      obtain⟨p,m⟩:=pm;have hm:m=base ps i s.fn+ (k-h):=by rw[←ak];unfold getM;rw[z]
      have ad:=GF s.fn M2 0 0;rw[z]at ad;obtain⟨e1,e2⟩:=aDx (n:=base ps i s.fn+ (k-h)+1) (j:=0) z;rw[dK]at e1 e2;try repeat' (first|(((with_reducible apply NU);(exact .inr rfl);(iterate 6 exact rfl);(exact rfl);(repeat first|with_reducible exact uL|with_reducible apply wD);exact ad;exact e2))|refine KO ?_|((with_reducible apply lU 0);(iterate 7 exact rfl);(rw[al,ai];omega);(dsimp only[fT]))|(refine KV (b:=by first|exact U1 k|((with_reducible apply eZ 2);(iterate 3 exact rfl);exact ah)|((with_reducible apply eZ 0);(iterate 3 exact rfl);exact r)|((with_reducible apply eZ 2);(iterate 3 exact rfl);exact ay)|((with_reducible apply oQ);(iterate 4 exact rfl);(exact rfl);(repeat first|with_reducible exact sH|with_reducible apply sG);exact o)) (c:=?_))|refine KZ ?_)
      all_goals refine gJ (n' :=s.names.length) (xs' :=(bl.set k ⟨nm,kd,false,((base ps i s.fn+ (k-h):Nat):Int)⟩).flatMap mI) 0 rfl rfl (oZ ag (vs:=[.int .i64 ((base ps i s.fn+ (k-h):Nat):Int)]) (k:=3) (n:=1) (by omega) bl k _ aa rfl) ?_
      all_goals refine KK (es' :=mkM (xW s.fn (base ps i s.fn+ (k-h)+1) M2) 0) (ck' :=(xW s.fn (base ps i s.fn+ (k-h)+1) M2).length) 1 rfl e1 (XA z).symm ?_
      all_goals exact cY (k+1,h,xW s.fn (base ps i s.fn+ (k-h)+1) M2,bl.set k ⟨nm,kd,false,((base ps i s.fn+ (k-h):Nat):Int)⟩) ⟨by dsimp only;omega,t.symm,hJ,l⟩ (by dsimp only;omega) rfl PU (fH _)
    | none=>
      have ad:=GF s.fn M2 0 0;rw[z]at ad;have aq:=QL (n:=base ps i s.fn+ (k-h)+1) z;try repeat' (first|(((with_reducible apply FY);(exact .inr rfl);(iterate 6 exact rfl);(exact rfl);(repeat first|with_reducible exact uL|with_reducible apply wD);exact ad))|refine KO ?_|((with_reducible apply lU 0);(iterate 7 exact rfl);(rw[al,ai];omega);(dsimp only[fT]))|(refine KV (b:=by first|exact U1 k|((with_reducible apply eZ 2);(iterate 3 exact rfl);exact ah)|((with_reducible apply eZ 0);(iterate 3 exact rfl);exact r)|((with_reducible apply eZ 2);(iterate 3 exact rfl);exact ay)|((with_reducible apply oQ);(iterate 4 exact rfl);(exact rfl);(repeat first|with_reducible exact sH|with_reducible apply sG);exact o)) (c:=?_))|refine KZ ?_)
      all_goals refine gJ (n' :=s.names.length) (xs' :=(bl.set k ⟨nm,kd,false,((base ps i s.fn+ (k-h):Nat):Int)⟩).flatMap mI) 0 rfl rfl (oZ ag (vs:=[.int .i64 ((base ps i s.fn+ (k-h):Nat):Int)]) (k:=3) (n:=1) (by omega) bl k _ aa rfl) ?_
      all_goals refine KK (es' :=mkM (xW s.fn (base ps i s.fn+ (k-h)+1) M2) 0) (ck' :=(xW s.fn (base ps i s.fn+ (k-h)+1) M2).length) 1 rfl (by rw[aq,aDy,bG];rfl) (by rw[aq];simp) ?_
      all_goals exact cY (k+1,h,xW s.fn (base ps i s.fn+ (k-h)+1) M2,bl.set k ⟨nm,kd,false,((base ps i s.fn+ (k-h):Nat):Int)⟩) ⟨by dsimp only;omega,t.symm,hJ,l⟩ (by dsimp only;omega) rfl PU (fH _)
   ·rw[if_pos rfl]at l t;try repeat' (first|refine KO ?_|((with_reducible apply lU 0);(iterate 7 exact rfl);(rw[al,ai];omega);(dsimp only[fT]))|(refine KV (b:=by first|exact U1 k|((with_reducible apply eZ 2);(iterate 3 exact rfl);exact ah)|((with_reducible apply eZ 0);(iterate 3 exact rfl);exact r)) (c:=?_))|refine KZ ?_)
    all_goals refine gJ (n' :=s.names.length) (xs' :=(bl.set k ⟨nm,kd,true,(h:Int)⟩).flatMap mI) 0 rfl rfl (oZ ag (vs:=[.int .i64 (h:Int)]) (k:=3) (n:=1) (by omega) bl k _ aa rfl) ?_
    all_goals exact cY (k+1,h+1,M2,bl.set k ⟨nm,kd,true,(h:Int)⟩) ⟨by dsimp only;omega,t.symm,fun f=>by rw[ae f,show k+1- (h+1)=k-h by omega],l⟩ (by dsimp only;omega) rfl PU (fH _)
  ·try repeat' (refine KZ ?_)
   have a7:k=s.names.length:=by omega
   subst a7;rw[aK (aC _)]at hh u;rw[cB (aC _),eD]at u;have hone:(CK (ps.take i) s).names=bl:=by rw[aDr,u,base]
   have a1:=aG5 hF an ab;rw[hone,←aj]at a1;have bb:∀f,getM f M2=base ps (i+1) f:=fun f=>by
    rw[ae f,base,base,QV ab,hh];by_cases hf:f=s.fn
    ·rw[if_pos hf,if_pos hf.symm];omega
    ·simp only[if_neg hf,if_neg (fun e:s.fn=f=>hf e.symm),bZ]
   refine gJ (n' :=bl.length) (xs' :=bl.flatMap mI) 0 rfl ai.symm rfl ?_;refine nD (L' :=.mp ⟨bm,mkM M2 0,(M2:List (Int×Nat)).length⟩::.inr ⟨.slice (some ⟨g,0,none⟩) cs.length cap,43,5,cs.length,cs.flatMap fF⟩::iB (fs2.set i (.slice A4 s.names.length c4,bl))) (by rw[OC,←hR];exact zK (F:=[_,_]) _ (by rw[OD,hF.1];omega)) ?_;exact cY (i+1,M2,fs2.set i (.slice A4 s.names.length c4,bl)) ⟨by dsimp only;omega,bb,a1⟩ (by dsimp only;omega) rfl PU (fH _)
 ·have a8:i=ps.length:=by omega
  rw[a8]at hF;try repeat' (refine KZ ?_)
  refine nD (L' :=(.inr ⟨.slice (some ⟨g,0,none⟩) cs.length cap,43,5,cs.length,cs.flatMap fF⟩::iB fs2)++[.mp ⟨bm,mkM M 0,(M:List (Int×Nat)).length⟩]) (dZ _ _) ?_;exact KE (Ls:=fun i:List Fm=>.inr ⟨.slice (some ⟨g,0,none⟩) cs.length cap,43,5,cs.length,cs.flatMap fF⟩::iB i) (Post:=fun _ v i=>v=.slice (some ⟨g,0,none⟩) cs.length cap∧aC4 ps fs ps.length i) (.inr ⟨.slice (some ⟨g,0,none⟩) cs.length cap,43,5,cs.length,cs.flatMap fF⟩::iB fs2).length fs2 ax rfl (cX rfl) (DK _ _) rfl (fun _ _=>⟨rfl,hF⟩)
end Go.Proofs.YtlllalmkkaolfaaGreatDoor
namespace Go.Vcg
open Go.RowKit
theorem Bk.aDc:∀{x:Bk} {μ μ' :Mem},Bk.sh x μ→MLe μ μ' →Bk.sh x μ'
 |.inl _,_,_,⟨arr,e,h⟩,hl=>⟨arr,hl _ _ e,h⟩
 |.inr _,_,_,⟨h,k⟩,hl=>⟨h,k.imp (fun h=>h) fun⟨g,cap,cur,e,e2,h3⟩=>⟨g,cap,cur,e,hl _ _ e2,h3⟩⟩
 |.mp _,_,_,h,hl=>hl _ _ h
 |.it ..,_,_,h,hl=>hl _ _ h
theorem IZ{P:Program}{X:Ctx}{Q:Exit→Act→World→Prop}{l:bS}{c:Code}:∀{L:List Bk} {μ:Mem},(∀μ',MLe μ μ' →(∀x∈L,Bk.sh x μ')→GC P X c Q μ' l [])→GC P X c Q μ l L
 |[],μ,h=>h μ (MLe.refl _) (fun x a=>by cases a)
 | y ::L,μ,h=>qN rfl fun μ1 h1 b=>IZ fun μ2 h2 hL=>h μ2 (h1.trans h2) fun x a=>by
     rcases aR.1 a with rfl|a
     ·exact Bk.aDc b h2
     ·exact hL x a
theorem splitB_all(L:List Bk):splitB L.length L=some (L,[]):=by
 have:=DK L [];rwa[eD]at this
end Go.Vcg
namespace Go.Proofs.YtlllalmkkaolfaaGreatDoor
open Go.RowKit Go.Vcg
theorem aK0:iB []=[]:=rfl
theorem GH(fs:List Fm)(f:Fm):iB (fs++[f])=iB fs++[GG f]:=by unfold iB;rw[bJ];rfl
theorem ZM{fs:List Fm}{f:Fm}(h:f∈fs):GG f∈iB fs:=by unfold iB;exact fG h
theorem UW{f:Fm}{μ:Mem}(h:Bk.sh (GG f) μ)(hl:f.2.length≤10000000):BdV μ f.2 f.1:=by
 obtain⟨v,bl⟩:=f;obtain⟨A,c,e,a⟩:=tM (enc:=mI) (xs:=bl) h rfl (by simp) rfl;dsimp only at e;subst e;exact⟨A,c,rfl,a,hl,Bk.cap h⟩
end Go.Proofs.YtlllalmkkaolfaaGreatDoor
namespace Go.Vcg
open Go.RowKit
section
variable{P:Program}{X:Ctx}{ops:Array Oper}{Q:Exit→Act→World→Prop}{rest:List Oper}{μ:Mem}{l:bS}{L:List Bk}{o:Oper}{d:Nat}
theorem XO:∀(L:List Bk) (i:Nat),iI L i=L[i]?
 |[],_=>rfl
 |_::_,0=>rfl
 |_::L,i+1=>XO L i
theorem VW:∀(L:List Bk) (i:Nat) (y:Bk),fT L i y=L.set i y
 |[],_,_=>rfl
 |_::_,0,_=>rfl
 | x::L,i+1,y=>by
   show x::fT L i y=_
   rw[VW L i y];rfl
theorem aR2{l' :bS}{L' :List Bk}(hl:wN l' l)(hL:Sel L' L)(h:G P X ops Q rest μ l' L'):G P X ops Q rest μ l L:=fun a w hs=>h a w (hs.sel hl hL)
theorem tY{L' :List Bk}(hL:Sel L' L)(h:G P X ops Q rest μ l L'):G P X ops Q rest μ l L:=aR2 (fun _ _ h=>h) hL h
theorem AG{c:Code}{L' :List Bk}(hL:Sel L' L)(h:GC P X c Q μ l L'):GC P X c Q μ l L:=aB4 (fun _ _ h=>h) hL h
theorem sV(e s:Nat)(h:G P X ops Q rest μ l (.inr ⟨.slice none 0 0,e,s,0,[]⟩::L)):G P X ops Q rest μ l L:=fun a w hs=>h a w (hs.xY e s)
theorem RI{b t sz:Nat}{cs:bS}{xs:List Value}(n s:Nat)(c:sz=n*s)(hc:lks cs 0 sz=some xs)(hn:n≤1000000)(h:G P X ops Q rest μ l (.inr ⟨.slice (some ⟨b,0,none⟩) n n,t,s,n,xs⟩::L)):G P X ops Q rest μ l (.inl ⟨b,t,sz,cs⟩::L):=fun a w hs=>by
 subst c;exact h a w (hs.aCv (MY hc) (dU hn (by decide)))
theorem YZ{f:FuncId}{vs:Array Value}{ι:Type}{Ls:ι→Bk}{Post:Mem→Value→ι→Prop}{y:Bk}(i:Nat)(hd:o.dst=some d)(hn:Nat.blt d X.n=true)(hw:iF ops l o=some true)(hr:Ent P μ l L o f vs)
 (hi:iI L i=some y)
 (hc:∀w,MOk μ w→Own μ [y] w→Calls P f vs w fun e w' =>∃v μ' i,e=.returned v∧mW (lH [y]) w w' μ [Ls i] μ' ∧Post μ' v i)
 (h:∀v μ' j,MLe μ μ' →Post μ' v j→G P X ops Q rest μ' ((d,v)::l) (fT L i (Ls j))):G P X ops Q (o::rest) μ l L:=by
 have hg:L[i]? =some y:=by rw[←XO];exact hi
 have hlt:i<L.length:=(List.getElem?_eq_some_iff.1 hg).1;have b:(y::L.eraseIdx i).Perm L:=lG (F:=[]) hg;refine UM b (oU (LB:=[y]) (Lr:=L.eraseIdx i) (Ls:=fun j=>[Ls j]) 1 hd hn hw (hr.perm b) rfl hc fun v μ' j hle a=>?_);have h2:=h v μ' j hle a;rw[VW]at h2;exact UM (zK (F:=[]) (Ls j) hlt) h2
end
end Go.Vcg
namespace Go.Proofs.YtlllalmkkaolfaaGreatDoor
section
open Go.RowKit Go.Vcg Go.MapKept
abbrev HZ(u:Us):List Value:=[.int .i64 u.at',.int .i64 u.scope,.int .i64 u.wh,.int .i64 u.hops,.int .i64 u.slot,.int .i64 u.kind,.string u.name,.bool u.check]
abbrev xJ(x:Ux):List Value:=[.int .i64 x.u.at',.int .i64 x.u.scope,.int .i64 x.u.wh,.int .i64 x.u.hops,.int .i64 x.u.slot,.int .i64 x.u.kind,.string x.u.name,.bool x.u.check,.int .i64 (x.ts:Int),.int .i64 (x.tb:Int),.bool x.found,.int .i64 x.fn]
abbrev CL(w:Wh):List Value:=[.int .i64 w.scope,.int .i64 w.fn,.bool w.decl]
abbrev WV(w:Wh):Value:=.agg (CL w).toArray
abbrev mF(v:Value)(l:List Bd):Bk:=.inr ⟨v,40,4,l.length,l.flatMap mI⟩
structure FW where
 (sv uv:Value) (cs:List (Sc×Value)) (ce he de:List MapEntry) (cc hc dc:Nat)
def jK(cs:List (Sc×Value)):List Fm:=cs.map fun c=>(c.2,c.1.names)
def FB(xb cb hb db:Nat)(s:FS)(q:FW):List Bk:=.inl ⟨xb,59,6,[(0,q.sv),(1,q.uv),(2,.int .i64 (s.funcs:Int)),(3,.map (some cb)),(4,.map (some hb)),(5,.map (some db))]⟩::
 .inr ⟨q.sv,43,5,q.cs.length,q.cs.flatMap fF⟩::.inr ⟨q.uv,63,12,s.uses.length,s.uses.flatMap xJ⟩::.mp ⟨cb,q.ce,q.cc⟩::.mp ⟨hb,q.he,q.hc⟩::.mp ⟨db,q.de,q.dc⟩::iB (jK q.cs)
theorem mK(xb cb hb db:Nat)(s:FS)(q:FW):FB xb cb hb db s q=.inl ⟨xb,59,6,[(0,q.sv),(1,q.uv),(2,.int .i64 (s.funcs:Int)),(3,.map (some cb)),(4,.map (some hb)),(5,.map (some db))]⟩::
 .inr ⟨q.sv,43,5,q.cs.length,q.cs.flatMap fF⟩::.inr ⟨q.uv,63,12,s.uses.length,s.uses.flatMap xJ⟩::.mp ⟨cb,q.ce,q.cc⟩::.mp ⟨hb,q.he,q.hc⟩::.mp ⟨db,q.de,q.dc⟩::iB (jK q.cs):=rfl
abbrev aEj(x:Int):Value:=.int .i64 x
abbrev ZO(x:Bool):Value:=.bool x
structure FR' (q:FW) (s:FS):Prop where
 sc:scs q.cs=s.scopes
 ca:MpI aEj q.ce s.cases
 hd:MpI ZO q.he s.heads
 dn:MpP q.de s.done
def PR(f:FuncId)(args:List Value)(xb cb hb db:Nat)(s s' :FS)(μ:Mem)(R:Value→Prop):Prop:=∀(w:World) (q:FW),MOk μ w→FR' q s→Go.Vcg.Own μ (FB xb cb hb db s q) w→
 Calls Tryz.prog f args.toArray w fun e w' =>∃(v:Value) (μ' :Mem) (i:FW),e=.returned v∧mW (lH (FB xb cb hb db s q)) w w' μ (FB xb cb hb db s' i) μ' ∧(FR' i s' ∧R v)
def aS1(f:FuncId)(args:List Value)(xb cb hb db:Nat)(lv:Value)(l:List Bd)(s s' :FS)(μ:Mem)(R:Value→Prop):Prop:=∀(w:World) (q:FW),MOk μ w→FR' q s→Go.Vcg.Own μ (mF lv l::FB xb cb hb db s q) w→
 Calls Tryz.prog f args.toArray w fun e w' =>∃(v:Value) (μ' :Mem) (i:FW),e=.returned v∧mW (lH (mF lv l::FB xb cb hb db s q)) w w' μ (FB xb cb hb db s' i) μ' ∧(FR' i s' ∧R v)
def RC(f:FuncId)(args:List Value)(lv:Value)(l l' :List Bd)(μ:Mem):Prop:=∀(w:World),MOk μ w→Go.Vcg.Own μ [mF lv l] w→
 Calls Tryz.prog f args.toArray w fun e w' =>∃(v:Value) (μ' :Mem) (i:Value),e=.returned v∧mW (lH [mF lv l]) w w' μ [mF i l'] μ' ∧v=i
section
variable{X:Ctx}{ops:Array Oper}{Q:Exit→Act→World→Prop}{rest:List Oper}{μ:Mem}{l:bS}{L Lr:List Bk}{o:Oper}{d:Nat}{f:FuncId}{xb cb hb db:Nat}{s s' :FS}{q:FW}{R:Value→Prop}
theorem tI{args:List Value}(k:Nat)(hd:o.dst=some d)(hn:Nat.blt d X.n=true)(hw:iF ops l o=some true)(hr:Ent Tryz.prog μ l L o f args.toArray)(hL:splitB k L=some (Lr,FB xb cb hb db s q))(b:FR' q s)(hc:PR f args xb cb hb db s s' μ R)
 (h:∀(v:Value) (μ' :Mem) (i:FW),MLe μ μ' →FR' i s' →R v→G Tryz.prog X ops Q rest μ' ((d,v)::l) (Lr++FB xb cb hb db s' i)):G Tryz.prog X ops Q (o::rest) μ l L:=
 qV (Ls:=fun i=>FB xb cb hb db s' i) (Post:=fun _ v i=>FR' i s' ∧R v) k hd hn hw hr hL (fun w hμ c=>hc w q hμ b c) fun v μ' i hle a=>h v μ' i hle a.1 a.2
theorem yU{args:List Value}{bl:List Bd}{lv:Value}(k:Nat)(hd:o.dst=some d)(hn:Nat.blt d X.n=true)(hw:iF ops l o=some true)(hr:Ent Tryz.prog μ l L o f args.toArray)(hL:splitB k L=some (Lr,mF lv bl::FB xb cb hb db s q))(b:FR' q s)(hc:aS1 f args xb cb hb db lv bl s s' μ R)
 (h:∀(v:Value) (μ' :Mem) (i:FW),MLe μ μ' →FR' i s' →R v→G Tryz.prog X ops Q rest μ' ((d,v)::l) (Lr++FB xb cb hb db s' i)):G Tryz.prog X ops Q (o::rest) μ l L:=
 qV (Ls:=fun i=>FB xb cb hb db s' i) (Post:=fun _ v i=>FR' i s' ∧R v) k hd hn hw hr hL (fun w hμ c=>hc w q hμ b c) fun v μ' i hle a=>h v μ' i hle a.1 a.2
theorem rI{args:List Value}{bl bl' :List Bd}{lv:Value}(i:Nat)(hd:o.dst=some d)(hn:Nat.blt d X.n=true)(hw:iF ops l o=some true)(hr:Ent Tryz.prog μ l L o f args.toArray)(hi:iI L i=some (mF lv bl))(hc:RC f args lv bl bl' μ)
 (h:∀(v:Value) (μ' :Mem),MLe μ μ' →G Tryz.prog X ops Q rest μ' ((d,v)::l) (fT L i (mF v bl'))):G Tryz.prog X ops Q (o::rest) μ l L:=
 YZ (Ls:=fun j=>mF j bl') (Post:=fun _ v j=>v=j) i hd hn hw hr hi (fun w hμ b=>hc w hμ b) fun v μ' j hle a=>by subst a;exact h v μ' hle
theorem oJ{P:Program}{fn:Func}{n:Nat}{r:ResultVar}{lv:Value}{μ0:Mem}{M:List Nat}{bl bl' :List Bd}{w:World}(a:∀D,M.count D≤1)(hr:fn.results= #[r])(h:RV P μ l L r lv)(hL:iI L 0=some (mF lv bl))(hb:bl=bl'):
 GQ ⟨w,μ0,M,n⟩ (bodyPost P fn (fun e w' =>∃(v:Value) (μ' :Mem) (i:Value),e=.returned v∧mW M w w' μ0 [mF i bl'] μ' ∧v=i)) .ret μ l L:=by
 subst hb;cases L with
 |nil=>cases hL
 | cons y L=>
   cases hL;exact KE (Ls:=fun i=>[mF i bl]) (Post:=fun _ v i=>v=i) 1 lv a hr h rfl rfl (fun _ _=>rfl)
theorem nT{P:Program}{fn:Func}{n:Nat}{μ0:Mem}{M:List Nat}{w:World}{ex:Exit}(k:Nat)(i:FW)(he:ex=.ret∨ex=.normal)(b:∀D,M.count D≤1)(hr:fn.results= #[])(hL:splitB k L=some (Lr,FB xb cb hb db s i))(hs:s=s')(a:FR' i s):
 GQ ⟨w,μ0,M,n⟩ (bodyPost P fn (fun e w' =>∃(v:Value) (μ' :Mem) (i:FW),e=.returned v∧mW M w w' μ0 (FB xb cb hb db s' i) μ' ∧(FR' i s' ∧True))) ex μ l L:=by
 subst hs;exact zH (Ls:=fun i=>FB xb cb hb db s i) (Post:=fun _ _ i=>FR' i s∧True) k i he b hr hL rfl (fun _ _ _=>⟨a,trivial⟩)
theorem xT{P:Program}{fn:Func}{n:Nat}{r:ResultVar}{v:Value}{μ0:Mem}{M:List Nat}{w:World}(k:Nat)(i:FW)(b:∀D,M.count D≤1)(hr:fn.results= #[r])(h:RV P μ l L r v)(hL:splitB k L=some (Lr,FB xb cb hb db s i))(hs:s=s')(a:FR' i s)(hv:R v):
 GQ ⟨w,μ0,M,n⟩ (bodyPost P fn (fun e w' =>∃(v:Value) (μ' :Mem) (i:FW),e=.returned v∧mW M w w' μ0 (FB xb cb hb db s' i) μ' ∧(FR' i s' ∧R v))) .ret μ l L:=by
 subst hs;exact TM (Ls:=fun i=>FB xb cb hb db s i) (Post:=fun _ v i=>FR' i s∧R v) k i b hr h hL rfl (fun _ _=>⟨a,hv⟩)
theorem aDl{P:Program}{fn:Func}{n:Nat}{μ0:Mem}{M:List Nat}{w:World}{ex:Exit}(i:FW)(he:ex=.ret∨ex=.normal)(b:∀D,M.count D≤1)(hr:fn.results= #[])(hL:Sel (FB xb cb hb db s i) L)(hs:s=s')(a:FR' i s):
 GQ ⟨w,μ0,M,n⟩ (bodyPost P fn (fun e w' =>∃(v:Value) (μ' :Mem) (i:FW),e=.returned v∧mW M w w' μ0 (FB xb cb hb db s' i) μ' ∧(FR' i s' ∧True))) ex μ l L:=
 gO hL (nT (Lr:=[]) 0 i he b hr rfl hs a)
theorem aIo{P:Program}{fn:Func}{n:Nat}{r:ResultVar}{v:Value}{μ0:Mem}{M:List Nat}{w:World}{y:Bk}(i:FW)(b:∀D,M.count D≤1)(hr:fn.results= #[r])(hL:Sel (y::FB xb cb hb db s i) L)(h:RV P μ l (y::FB xb cb hb db s i) r v)(hs:s=s')(a:FR' i s)(hv:R v):
 GQ ⟨w,μ0,M,n⟩ (bodyPost P fn (fun e w' =>∃(v:Value) (μ' :Mem) (i:FW),e=.returned v∧mW M w w' μ0 (FB xb cb hb db s' i) μ' ∧(FR' i s' ∧R v))) .ret μ l L:=
 gO hL (xT (Lr:=[y]) 1 i b hr h rfl hs a hv)
end
theorem AK(cs:List (Sc×Value)):(jK cs).length=cs.length:=aO ..
theorem uV{cs:List (Sc×Value)}{i:Nat}{c:Sc×Value}(h:cs[i]? =some c):(jK cs)[i]? =some (c.2,c.1.names):=by unfold jK;rw[aX,h];rfl
theorem GB(cs:List (Sc×Value))(c:Sc×Value):jK (cs++[c])=jK cs++[(c.2,c.1.names)]:=by unfold jK;rw[bJ];rfl
theorem kV(cs:List (Sc×Value)):(scs cs).length=cs.length:=aO ..
theorem aAx{μ:Mem}{q:FW}{s:FS}{xb cb hb db:Nat}(b:FR' q s)(h:∀y∈FB xb cb hb db s q,Bk.sh y μ)(hl:s.scopes.length≤9000)(hn:∀c∈s.scopes,c.names.length≤10000000):∃A c,q.sv=.slice A q.cs.length c∧ScR μ A q.cs:=by
 have h1:=h _ (bP (aE ..));obtain⟨A,c,e,g⟩:=tM (enc:=fF) (xs:=q.cs) h1 rfl (by simp) rfl;refine⟨A,c,e,g,by rw[←kV,b.sc];exact hl,fun p a=>?_⟩;have hm:p.1∈s.scopes:=by rw[←b.sc];exact fG a
 have hf:(p.2,p.1.names)∈jK q.cs:=fG (f:=fun c:Sc×Value=>(c.2,c.1.names)) a;exact UW (f:=(p.2,p.1.names)) (h _ (by
  rw[mK];iterate 6 apply dF
  exact ZM hf)) (hn _ hm)
theorem aVb:FR' ⟨.slice none 0 0,.slice none 0 0,[],[],[],[],0,0,0⟩ ⟨[],[],0,[],[],[]⟩:=⟨rfl,rfl,rfl,rfl⟩
end
section
open Go.RowKit Go.Vcg
theorem mY{l:List Sc}{x:ByteArray}{f:Nat}{at' :Int}(h:0≤at' ∧at' <l.length){c:Sc}(hc:l[at'.toNat]? =some c):findF l x (f+1) at' =match gP x c.names 0 with
 |some k=>some (at'.toNat,k)
 |none=>if c.up≥at' then none else findF l x f c.up:=by
 rw[findF,if_pos h,hc];rfl
theorem RW(l m:List Sc)(x:ByteArray):∀(f:Nat) (at' :Int),at' <l.length→findF (l++m) x f at' =findF l x f at'
 |0,_,_=>rfl
 | f+1,at',h=>by
   by_cases h0:0≤at'
   ·obtain⟨c,hc⟩:∃c,l[at'.toNat]? =some c:=⟨_,aA (by omega)⟩;rw[mY ⟨h0,h⟩ hc,mY (l:=l++m) ⟨h0,by rw[aI];omega⟩ (by rw[aV (by omega)];exact hc)];cases gP x c.names 0 with
    |some k=>rfl
    | none=>
      dsimp only;by_cases hu:c.up≥at'
      ·rw[if_pos hu,if_pos hu]
      ·rw[if_neg hu,if_neg hu,RW l m x f c.up (by omega)]
   ·rw[oH (fun h=>h0 h.1),oH (fun h=>h0 h.1)]
theorem FZ(l m:List Sc)(x:ByteArray){at' :Int}(h:at' <l.length):iD (l++m) at' x=iD l at' x:=RW l m x _ at' h
theorem DO{x:ByteArray}:∀{l:List Bd} {k j:Nat},gP x l k=some j→∃b,l[j-k]? =some b∧b.name=x∧k≤j
 |[],_,_,h=>by cases h
 | b::r,k,j,h=>by
   unfold gP at h;split at h
   ·rename_i hb;cases h;exact⟨b,by simp,hb,aC _⟩
   ·obtain⟨c,h1,h2,h3⟩:=DO h;refine⟨c,?_,h2,by omega⟩;rw[show j-k=(j- (k+1))+1 by omega,bW];exact h1
theorem mD{l:List Sc}{x:ByteArray}:∀{f:Nat} {at' :Int} {a b:Nat},findF l x f at' =some (a,b)→∃c d,l[a]? =some c∧c.names[b]? =some d∧d.name=x∧(a:Int)≤at'
 |0,_,_,_,h=>by cases h
 | f + 1,at',a,b,h=>by
   by_cases h0:0≤at' ∧at' <l.length
   ·obtain⟨c,hc⟩:∃c,l[at'.toNat]? =some c:=⟨_,aA (by omega)⟩;rw[mY h0 hc]at h;cases e:gP x c.names 0 with
    | some k=>
      rw[e]at h;cases h;obtain⟨d,h1,h2,-⟩:=DO e;exact⟨c,d,hc,h1,h2,by omega⟩
    | none=>
      rw[e]at h;dsimp only at h;split at h
      ·cases h
      ·obtain⟨c',d,h1,h2,h3,h4⟩:=mD h;exact⟨c',d,h1,h2,h3,by omega⟩
   ·rw[oH h0]at h;cases h
theorem NA{l m:List Sc}{a b:Nat}(h:a<l.length):fD (l++m) a b=fD l a b:=by
 unfold fD;rw[aV h]
structure OZ (l:List Sc) (x:Ux):Prop where
 lo:0≤x.u.scope
 hi:x.u.scope<l.length
 wh:x.u.wh=2
 hs:x.u.hops=0∧x.u.slot=0
 yes:x.found=true→iD l x.u.scope x.u.name=some (x.ts,x.tb)∧x.u.kind=fD l x.ts x.tb
 no:x.found=false→iD l x.u.scope x.u.name=none∧x.u.kind=0∧x.ts=0∧x.tb=0
 ck:x.u.check=true→x.found=true∧(x.u.kind=1∨x.u.kind=2)
theorem OZ.app{l:List Sc}{x:Ux}(h:OZ l x)(m:List Sc):OZ (l++m) x:=by
 refine⟨h.lo,by have:=h.hi;rw[aI];omega,h.wh,h.hs,fun hf=>?_,fun hf=>?_,h.ck⟩
 ·obtain⟨h1,h2⟩:=h.yes hf;refine⟨by rw[FZ l m _ h.hi];exact h1,?_⟩;obtain⟨c,d,h3,-⟩:=mD h1;rw[NA (List.getElem?_eq_some_iff.1 h3).1];exact h2
 ·obtain⟨h1,h2⟩:=h.no hf;exact⟨by rw[FZ l m _ h.hi];exact h1,h2⟩
def aV5(l:List Sc):Prop:=∀(i:Nat) (c:Sc),l[i]? =some c→ -1≤c.up∧c.up<i
structure SI (s:FS):Prop where
 up:aV5 s.scopes
 uses:∀x∈s.uses,OZ s.scopes x
def WI(w:Wh)(s:FS):Prop:=0≤w.scope∧w.scope<s.scopes.length
structure Go' (s s' :FS):Prop where
 si:SI s'
 pre:s.scopes<+:s'.scopes
theorem Go'.refl{s:FS}(h:SI s):Go' s s:=⟨h,nY _⟩
theorem Go'.trans{s s' s'' :FS}(h:Go' s s')(a:Go' s' s''):Go' s s'' :=⟨a.si,h.pre.trans a.pre⟩
theorem WI.go{w:Wh}{s s' :FS}(h:WI w s)(hg:Go' s s'):WI w s' :=⟨h.1,by have:=hg.pre.length_le;have:=h.2;omega⟩
theorem FU{kind at' :Int}{w:Wh}{l:List Bd}{s:FS}(h:SI s)(hw: -1≤w.scope∧w.scope<s.scopes.length):Go' s (kL kind at' w l s)∧WI (nG w s) (kL kind at' w l s):=by
 refine⟨⟨⟨fun i c hi=>?_,fun x b=>(h.uses x b).app _⟩,List.prefix_append _ _⟩,?_,?_⟩
 ·have hi:(s.scopes++[(⟨w.scope,w.fn,kind,at',l⟩:Sc)])[i]? =some c:=hi;by_cases hlt:i<s.scopes.length
  ·rw[aV hlt]at hi;exact h.up i c hi
  ·rw[aP (by omega)]at hi;cases a:i-s.scopes.length with
   | zero=>
     rw[a]at hi;cases hi;exact⟨hw.1,by have:=hw.2;show w.scope<_;omega⟩
   |succ j=>rw[a]at hi;simp at hi
 ·show(0:Int)≤(s.scopes.length:Int)
  omega
 ·show(s.scopes.length:Int)< ((s.scopes++[_]).length:Int)
  rw[aI,cN];omega
theorem KM{kind at' :Int}{w:Wh}{l:List Bd}{s:FS}(h:SI s)(hw:WI w s):Go' s (iJ kind at' w l s)∧WI (eF w l s) (iJ kind at' w l s):=by
 unfold iJ eF;split
 ·exact⟨Go'.refl h,hw⟩
 ·exact FU h ⟨by have:=hw.1;omega,hw.2⟩
theorem aD7{t:T}{w:Wh}{s:FS}(h:SI s)(hw:WI w s):Go' s (pL t w s):=by
 refine⟨⟨h.up,fun x c=>?_⟩,nY _⟩;have c:x∈s.uses++[_]:=c;rcases List.mem_append.1 c with c|c
 ·exact h.uses x c
 ·rw[aJ.1 c];show OZ s.scopes _
  cases hf:iD s.scopes w.scope t.s with
  | none=>
    dsimp only;exact⟨hw.1,hw.2,rfl,⟨rfl,rfl⟩,fun h=>(by cases h),fun _=>⟨hf,rfl,rfl,rfl⟩,fun h=>(by cases h)⟩
  | some p=>
    obtain⟨a,b⟩:=p;dsimp only;refine⟨hw.1,hw.2,rfl,⟨rfl,rfl⟩,fun _=>⟨hf,rfl⟩,fun h=>(by cases h),fun h=>⟨rfl,?_⟩⟩;have h:((decide (fD s.scopes a b=1)||decide (fD s.scopes a b=2))&& !w.decl&& !qL s a b w.fn)=true:=h;simp only[aM,Bool.or_eq_true,decide_eq_true_eq]at h;exact h.1.1
section
variable{N:T→Wh→FS→FS}{fu:Nat}
def NS(N:T→Wh→FS→FS):Prop:=∀(k:T) (w:Wh) (s:FS),WI w s→SI s→Go' s (N k w s)
theorem BY{α:Type}{g:FS→α→FS}:∀(l:List α) (s:FS) (w:Wh),WI w s→SI s→(∀k∈l,∀s,WI w s→SI s→Go' s (g s k))→Go' s (l.foldl g s)
 |[],s,_,_,h,_=>Go'.refl h
 | k::r,s,w,hw,h,hg=>by rw[bX];have h1:=hg k (by simp) s hw h;exact h1.trans (BY r _ w (hw.go h1) h1.si fun k hk=>hg k (bP hk))
theorem DU(a:NS N)(l:List T){w:Wh}{s:FS}(hw:WI w s)(h:SI s):Go' s (vM N l w s):=BY l s w hw h fun k _ s hw h=>a k w s hw h
theorem SI.other{s s' :FS}(h:SI s)(e1:s'.scopes=s.scopes)(e2:s'.uses=s.uses):SI s' :=⟨by rw[e1];exact h.up,by rw[e1,e2];exact h.uses⟩
theorem AE{s s' :FS}(h:SI s)(e1:s'.scopes=s.scopes)(e2:s'.uses=s.uses):Go' s s' :=⟨h.other e1 e2,by rw[e1];exact nY _⟩
theorem aR5(f:NS N)(t:T){w:Wh}{s:FS}(hw:WI w s)(h:SI s):Go' s (HV N fu t w s):=by
 unfold HV;dsimp only;have g1:Go' s { s with funcs:=s.funcs+1 }:=AE h rfl rfl;generalize ({ s with funcs:=s.funcs+1 }:FS)=s1 at g1⊢;have a:WI { w with fn:=((s.funcs+1:Nat):Int) } s1:=hw.go g1;generalize ({ w with fn:=((s.funcs+1:Nat):Int) }:Wh)=w1 at a⊢;generalize (!decide (t.s=⟨#[]⟩)&& !jG t 1)=c;have h2:Go' s1 (if c=true then kL 5 t.at' w1 [⟨t.s,7,false,0⟩] s1 else s1)∧WI (if c=true then nG w1 s1 else w1) (if c=true then kL 5 t.at' w1 [⟨t.s,7,false,0⟩] s1 else s1):=by
  cases c
  ·exact⟨Go'.refl g1.si,a⟩
  ·exact FU g1.si ⟨by have:=a.1;omega,a.2⟩
 generalize (if c=true then kL 5 t.at' w1 [⟨t.s,7,false,0⟩] s1 else s1)=s2 at h2⊢;generalize (if c=true then nG w1 s1 else w1)=w2 at h2⊢;obtain⟨g2,e⟩:=h2;obtain⟨g3,b⟩:=FU (kind:=1) (at' :=t.at') (l:=dM fu t) g2.si ⟨by have:=e.1;omega,e.2⟩;have g4:=f (cQ t 0) _ _ b g3.si;have g:=((g1.trans g2).trans g3).trans g4;split
 ·exact g.trans (DU f _ (b.go g4) g4.si)
 ·exact g.trans (f _ _ _ (b.go g4) g4.si)
theorem aN5(b:NS N)(t:T){w:Wh}{s:FS}(hw:WI w s)(h:SI s):Go' s (zS N t w s):=by
 unfold zS;dsimp only;generalize (decide ((cQ t 0).op=2)&& !decide ((cQ t 0).n=0))=c;have h2:Go' s (if c=true then iJ 3 t.at' w (eM (cQ t 0) []) s else s)∧WI (if c=true then eF w (eM (cQ t 0) []) s else w) (if c=true then iJ 3 t.at' w (eM (cQ t 0) []) s else s):=by
  cases c
  ·exact⟨Go'.refl h,hw⟩
  ·exact KM h hw
 generalize (if c=true then iJ 3 t.at' w (eM (cQ t 0) []) s else s)=s1 at h2⊢;generalize (if c=true then eF w (eM (cQ t 0) []) s else w)=w1 at h2⊢;obtain⟨g1,a⟩:=h2;refine g1.trans (BY _ _ w1 a g1.si fun k _ s hw h=>?_);split
 ·have ga:Go' s { s with heads:=iS w1.scope true s.heads }:=AE h rfl rfl;have gb:=b k.1 w1 _ (hw.go ga) ga.si;exact(ga.trans gb).trans (AE gb.si rfl rfl)
 ·exact b _ _ _ hw h
theorem aGv(b:NS N)(t:T){w:Wh}{s:FS}(hw:WI w s)(h:SI s):Go' s (rN N t w s):=by
 unfold rN;dsimp only;obtain⟨g1,a⟩:=KM (kind:=2) (at' :=t.at') (l:=(t.kids.drop 1).foldl (fun l k=>bF k.kids true l) []) h hw;generalize (t.kids.drop 1).foldl (fun l k=>bF k.kids true l) []=l at g1 a⊢;generalize iJ 2 t.at' w l s=s1 at g1 a⊢;generalize eF w l s=w1 at a⊢;have g2:=b (cQ t 0) w _ (hw.go g1) g1.si;refine(g1.trans g2).trans (BY _ _ w1 (a.go g2) g2.si fun k _ s hw h=>?_);split
 ·have ga:Go' s { s with cases:=iS w1.scope (k.2:Int) s.cases }:=AE h rfl rfl;exact ga.trans (b _ _ _ (hw.go ga) ga.si)
 ·exact b _ _ _ hw h
theorem aN6(a:NS N)(t:T){w:Wh}{s:FS}(hw:WI w s)(h:SI s):Go' s (AS N t w s):=by
 unfold AS;dsimp only;have g1:=a (cQ t 0) { w with decl:=true } s hw h;have g2:=DU a (t.kids.drop 1) (hw.go g1) g1.si;refine(g1.trans g2).trans (BY _ _ w ((hw.go g1).go g2) g2.si fun x _ s hw h=>?_);split
 ·exact AE h rfl rfl
 ·exact Go'.refl h
theorem aJ2(a:NS N)(t:T){w:Wh}{s:FS}(hw:WI w s)(h:SI s):Go' s (uQ N t w s):=by
 unfold uQ;refine BY _ _ w hw h fun k _ s hw h=>?_;split
 ·exact a _ _ _ hw h
 ·exact a _ _ _ hw h
theorem aN4(a:NS N)(t:T){w:Wh}{s:FS}(hw:WI w s)(h:SI s):Go' s (yS N fu t w s):=by
 unfold yS;split
 ·exact aD7 h hw
 split
 ·exact aR5 a t (w:={ w with decl:=false }) hw h
 split
 ·obtain⟨g1,b⟩:=KM (kind:=2) (at' :=t.at') (l:=bF t.kids true []) h hw;exact g1.trans (DU a _ b g1.si)
 split
 ·exact aGv a t hw h
 split
 ·exact aN5 a t hw h
 split
 ·obtain⟨g1,b⟩:=KM (kind:=4) (at' :=t.at') (l:=dT 5 (bB (cQ t 0)) []) h hw;exact g1.trans (DU a _ b g1.si)
 split
 ·exact aN6 a t hw h
 split
 ·split
  ·exact aD7 h hw
  ·exact DU a _ hw h
 ·exact aJ2 a t hw h
end
theorem aJ3(fu:Nat):∀f,NS (nbS fu f)
 |0=>fun _ _ _ _ h=>Go'.refl h
 |f+1=>fun t _ _ hw h=>aN4 (aJ3 fu f) t hw h
theorem aA0(f:Nat)(t:T):SI (gS f t):=by
 have h0:SI ⟨[],[],0,[],[],[]⟩:=⟨fun i c h=>by simp at h,fun x a=>by simp at a⟩;obtain⟨g,hw⟩:=FU (kind:=0) (at' :=t.at') (w:=⟨-1,0,false⟩) (l:=bF t.kids false []) h0 ⟨mV _,by simp⟩;exact(DU (aJ3 f f) t.kids (w:=⟨0,0,false⟩) (s:=mL t) hw g.si).si
end
end Go.Proofs.YtlllalmkkaolfaaGreatDoor
