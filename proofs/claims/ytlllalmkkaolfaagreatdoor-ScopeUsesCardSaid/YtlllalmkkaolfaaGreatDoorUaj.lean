/- Package scope: how much the finder's state grows. -/
import Derived.Test.YtlllalmkkaolfaaGreatDoorUai
set_option maxRecDepth 20000
set_option maxHeartbeats 2000000
namespace Go.Proofs.YtlllalmkkaolfaaGreatDoor
section
open Go.RowKit Go.Vcg
structure Ks (t:T):Prop where
 kc:Kc t
 dec:t.op=3→1≤t.kids.length
 vn:t.op=2→t.n=0∨t.n=1∨t.n=2
def qS(t:T):Prop:=Ks t∧t.s.size≤100000
theorem T.PT:T.zero.size=1:=by rw[T.size_eq];rfl
theorem uH(t:T)(i:Nat):(cQ t i).size≤t.size:=by
 unfold cQ;cases h:t.kids[i]? with
 | none=>
   have:=T.size_eq t;simp only[Option.getD_none,T.PT];omega
 | some k=>
   have h1:=T.fY h;simp only[lV];omega
theorem jE{t:T}{i:Nat}{k:T}(h:t.kids[i]? =some k):cQ t i=k:=by unfold cQ;rw[h];rfl
theorem OY(x:ByteArray)(k:Int):∀l:List Bd,(jY x k l).length≤l.length+1
 |[]=>by simp[jY]
 | b::r=>by
   have:=OY x k r;unfold jY;split
   ·split<;>simp
   ·simp only[bH];omega
theorem oW{α β:Type}(g:List β→α→List β)(c:α→Nat):∀(l:List α) (a:List β),(∀k∈l,∀a,(g a k).length≤a.length+c k)→(l.foldl g a).length≤a.length+ (l.map c).sum
 |[],a,_=>by simp
 | k::r,a,h=>by have h1:=h k (aE ..) a;have h2:=oW g c r (g a k) fun k hk=>h k (bP hk);simp only[bX,aL,dY];omega
theorem aMi{α:Type}(l:List α):(l.map fun _=>1).sum=l.length:=by induction l with
 |nil=>rfl
 |cons x r ih=>simp only[aL,dY,bH,ih];omega
theorem oI(k:Int)(xs:List ByteArray)(l:List Bd):(dT k xs l).length≤l.length+xs.length:=by
 have:=oW (fun l x=>jY x k l) (fun _=>1) xs l fun x _ a=>OY x k a;rw[aMi]at this;exact this
theorem oE(t:T)(l:List Bd):(eM t l).length≤l.length+szs t.kids:=
 oW (fun l d=>dT t.n (bB (cQ d 0)) l) T.size t.kids l fun d _ a=>by have h1:=oI t.n (bB (cQ d 0)) a;have h2:=kQ (cQ d 0);have h3:=uH d 0;omega
theorem jO(kids:List T)(fs:Bool)(l:List Bd):(bF kids fs l).length≤l.length+szs kids:=
 oW _ T.size kids l fun t _ a=>by
  have h0:=aS t;split
  ·have:=oE t a;omega
  ·split
   ·have:=OY t.s 3 a;omega
   ·omega
theorem qM:∀(f:Nat) (t:T) (l:List Bd),t.size≤2000→(dR f t l).length≤l.length+2000*t.size
 |0,t,l,_=>by unfold dR;omega
 | f +1,t,l,h=>by
   unfold dR;have h0:=aS t;split
   ·omega
   ·have h2:=oW (fun l k=>dR f k l) (fun k=>2000*k.size) t.kids (if t.op=2∧t.n=0 then eM t l else l) fun k hk a=>qM f k a (by
     have:k.size≤szs t.kids:=T.eL (List.mem_map.2 ⟨k,hk,rfl⟩);omega)
    have h3:∀l:List T,(l.map fun k=>2000*k.size).sum=2000*szs l:=fun l=>by
     induction l with
     |nil=>rfl
     |cons x r ih=>simp only[aL,dY,bK,ih];omega
    rw[h3]at h2;have h4:=oE t l;have h5:(if t.op=2∧t.n=0 then eM t l else l).length≤l.length+szs t.kids:=by split<;>omega
    omega
theorem IP(f:Nat)(t:T)(h:t.size≤2000):(dM f t).length≤10000000:=by
 unfold dM;dsimp only;have h1:=uH t 0;have h2:=uH t 1;have h3:=oI 4 (bB (cQ t 0)) [];have h4:=kQ (cQ t 0);have h5:=qM f (cQ t 0) (dT 4 (bB (cQ t 0)) []) (by omega);rw[bM]at h3;split
 ·have:=qM f (cQ t 1) (dR f (cQ t 0) (dT 4 (bB (cQ t 0)) [])) (by omega);omega
 ·have h6:=aS (cQ t 1);have c:=oW (fun l k=>dR f k (bF [k] true l)) (fun k=>2001*k.size) (cQ t 1).kids (dR f (cQ t 0) (dT 4 (bB (cQ t 0)) [])) fun k hk a=>by
   have b:k.size≤szs (cQ t 1).kids:=T.eL (List.mem_map.2 ⟨k,hk,rfl⟩);have i:=qM f k (bF [k] true a) (by omega);have g:=jO [k] true a;have e:szs [k]=k.size:=by simp[szs]
   omega
  have h3:∀l:List T,(l.map fun k=>2001*k.size).sum=2001*szs l:=fun l=>by
   induction l with
   |nil=>rfl
   |cons x r ih=>simp only[aL,dY,bK,ih];omega
  rw[h3]at c;omega
def wtS(s:FS):Nat:=s.scopes.length+s.uses.length+s.funcs
def NmB(s:FS):Prop:=∀c∈s.scopes,c.names.length≤10000000
structure GrS (m:Nat) (s s' :FS):Prop where
 wt:wtS s' ≤wtS s+m
 nm:NmB s→NmB s'
theorem GrS.refl(s:FS):GrS 0 s s:=⟨aC _,fun h=>h⟩
theorem GrS.trans{a b:Nat}{s s' s'' :FS}(h:GrS a s s')(c:GrS b s' s''):GrS (a+b) s s'' :=⟨by have:=h.wt;have:=c.wt;omega,fun x=>c.nm (h.nm x)⟩
theorem GrS.mono{a b:Nat}{s s' :FS}(h:GrS a s s')(c:a≤b):GrS b s s' :=⟨by have:=h.wt;omega,h.nm⟩
theorem vY{kind at' :Int}{w:Wh}{l:List Bd}(s:FS)(hl:l.length≤10000000):GrS 1 s (kL kind at' w l s):=by
 refine⟨?_,fun h c hc=>?_⟩
 ·unfold wtS kL;dsimp only;rw[aI,cN];omega
 ·have hc:c∈s.scopes++[_]:=hc;rcases List.mem_append.1 hc with hc|hc
  ·exact h c hc
  ·rw[aJ.1 hc];exact hl
theorem vX{kind at' :Int}{w:Wh}{l:List Bd}(s:FS)(hl:l.length≤10000000):GrS 1 s (iJ kind at' w l s):=by
 unfold iJ;split
 ·exact(GrS.refl s).mono (by omega)
 ·exact vY s hl
theorem aD5(t:T)(w:Wh)(s:FS):GrS 1 s (pL t w s):=by
 refine⟨?_,fun h=>h⟩;unfold wtS pL;dsimp only;rw[aI,cN];omega
def NGs(N:T→Wh→FS→FS)(k:T):Prop:=∀(w:Wh) (s:FS),GrS (3*k.size) s (N k w s)
section
variable{N:T→Wh→FS→FS}{fu:Nat}
theorem tH{α:Type}(g:FS→α→FS)(c:α→Nat):∀(l:List α) (s:FS),(∀k∈l,∀s,GrS (c k) s (g s k))→GrS ((l.map c).sum) s (l.foldl g s)
 |[],s,_=>GrS.refl s
 |k::r,s,h=>(h k (aE ..) s).trans (tH g c r _ fun k hk=>h k (bP hk))
theorem aU4(l:List T):(l.map fun k=>3*k.size).sum=3*szs l:=by induction l with
 |nil=>rfl
 |cons x r ih=>simp only[aL,dY,bK,ih];omega
theorem QB:∀(l:List T) (n:Nat),((l.zipIdx n).map fun k=>3*k.1.size).sum=3*szs l
 |[],_=>rfl
 | x::r,n=>by have:=QB r (n+1);simp only[lW,aL,dY,bK,this];omega
theorem yA{l:List T}{n:Nat}{p:T×Nat}(h:p∈l.zipIdx n):p.1∈l:=by
 obtain⟨a,b⟩:=p;exact(List.mem_zipIdx h).2.2▸lZ _
theorem sW(l:List T)(a:∀k∈l,NGs N k)(w:Wh)(s:FS):GrS (3*szs l) s (vM N l w s):=by
 have:=tH (fun s k=>N k w s) (fun k=>3*k.size) l s fun k hk s=>a k hk w s;rw[aU4]at this;exact this
theorem GrS.other{m:Nat}{s s1 s2:FS}(h:GrS m s s1)(e1:s2.scopes=s1.scopes)(e2:s2.uses=s1.uses)(e3:s2.funcs=s1.funcs):GrS m s s2:=⟨by have:=h.wt;unfold wtS at*;rw[e1,e2,e3];exact this,fun hn c hc=>h.nm hn c (by rw[←e1];exact hc)⟩
theorem SY{t:T}(h:2≤t.kids.length):(cQ t 0).size+ (cQ t 1).size≤szs t.kids∧cQ t 0∈t.kids∧cQ t 1∈t.kids:=by
 unfold cQ;cases hk:t.kids with
 |nil=>rw[hk]at h;simp at h
 | cons a r=>
   cases r with
   |nil=>rw[hk]at h;simp at h
   |cons b r=>simp[bK]<;>omega
theorem JX{t:T}(h:1≤t.kids.length):(cQ t 0).size+szs (t.kids.drop 1)=szs t.kids∧cQ t 0∈t.kids:=by
 unfold cQ;cases hk:t.kids with
 |nil=>rw[hk]at h;simp at h
 |cons a r=>simp[bK]
theorem aNz(t:T)(hq:Ks t)(h4:t.op=4)(a:t.size≤2000)(b:∀k,(k∈t.kids∨k∈(cQ t 1).kids)→NGs N k)(w:Wh)(s:FS):GrS (3*t.size) s (HV N fu t w s):=by
 obtain⟨e,m0,m1⟩:=SY (hq.kc.two (.inl h4));have h0:=aS t;have h1:=aS (cQ t 1);unfold HV;dsimp only;have g1:GrS 1 s { s with funcs:=s.funcs+1 }:=⟨by unfold wtS;dsimp only;omega,fun h=>h⟩;generalize ({ s with funcs:=s.funcs+1 }:FS)=s1 at g1⊢;generalize (!decide (t.s=⟨#[]⟩)&& !jG t 1)=c;generalize ({ w with fn:=((s.funcs+1:Nat):Int) }:Wh)=w1;have g2:GrS 1 s1 (if c=true then kL 5 t.at' w1 [⟨t.s,7,false,0⟩] s1 else s1):=by
  cases c
  ·exact(GrS.refl s1).mono (by omega)
  ·exact vY s1 (by simp)
 generalize (if c=true then kL 5 t.at' w1 [⟨t.s,7,false,0⟩] s1 else s1)=s2 at g2⊢;generalize (if c=true then nG w1 s1 else w1)=w2;have g3:=vY (kind:=1) (at' :=t.at') (w:=w2) s2 (IP fu t a);have g4:=b (cQ t 0) (.inl m0) (nG w2 s2) (kL 1 t.at' w2 (dM fu t) s2);have g:=((g1.trans g2).trans g3).trans g4;split
 ·exact(g.trans (sW _ (fun k hk=>b k (.inr hk)) _ _)).mono (by omega)
 ·exact(g.trans (b (cQ t 1) (.inl m1) _ _)).mono (by omega)
theorem aJz(t:T)(b:t.size≤2000)(a:∀k∈t.kids,NGs N k)(w:Wh)(s:FS):GrS (3*t.size) s (zS N t w s):=by
 have h0:=aS t;unfold zS;dsimp only;have hl:(eM (cQ t 0) []).length≤10000000:=by have h1:=oE (cQ t 0) [];have h2:=uH t 0;have h3:=aS (cQ t 0);rw[bM]at h1;omega
 generalize (decide ((cQ t 0).op=2)&& !decide ((cQ t 0).n=0))=c;have g1:GrS 1 s (if c=true then iJ 3 t.at' w (eM (cQ t 0) []) s else s):=by
  cases c
  ·exact(GrS.refl s).mono (by omega)
  ·exact vX s hl
 generalize (if c=true then iJ 3 t.at' w (eM (cQ t 0) []) s else s)=s1 at g1⊢;generalize (if c=true then eF w (eM (cQ t 0) []) s else w)=w1;have g2:=tH (fun s (k:T×Nat)=>
  if k.2=1∧t.op≠10∧w1.scope≠w.scope then
   let s2:=N k.1 w1 { s with heads:=iS w1.scope true s.heads }
   { s2 with heads:=tJ w1.scope s2.heads }
  else N k.1 w1 s) (fun k=>3*k.1.size) (t.kids.zipIdx) s1 fun k hk s=>by
   dsimp only;split
   ·refine GrS.other (s1:=N k.1 w1 { s with heads:=iS w1.scope true s.heads }) ?_ rfl rfl rfl;have ga:GrS 0 s { s with heads:=iS w1.scope true s.heads }:=(GrS.refl s).other rfl rfl rfl;exact(ga.trans (a k.1 (yA hk) _ _)).mono (by omega)
   ·exact a k.1 (yA hk) _ _
 rw[QB]at g2;exact(g1.trans g2).mono (by omega)
theorem aB3(t:T)(h1:1≤t.kids.length)(c:t.size≤2000)(b:∀k∈t.kids,NGs N k)(w:Wh)(s:FS):GrS (3*t.size) s (rN N t w s):=by
 have h0:=aS t;obtain⟨e,m0⟩:=JX h1;unfold rN;dsimp only;have hl:((t.kids.drop 1).foldl (fun l k=>bF k.kids true l) []).length≤10000000:=by
  have h2:=oW (fun l (k:T)=>bF k.kids true l) T.size (t.kids.drop 1) [] fun k _ a=>by have h3:=jO k.kids true a;have h4:=aS k;omega
  have h5:((t.kids.drop 1).map T.size).sum=szs (t.kids.drop 1):=rfl;rw[h5,bM]at h2;omega
 generalize (t.kids.drop 1).foldl (fun l k=>bF k.kids true l) []=l at hl⊢;have g1:=vX (kind:=2) (at' :=t.at') (w:=w) s hl;generalize iJ 2 t.at' w l s=s1 at g1⊢;generalize eF w l s=w1;have g2:=b (cQ t 0) m0 w s1;have g3:=tH (fun s (k:T×Nat)=>N k.1 w1 (if w1.scope≠w.scope then{ s with cases:=iS w1.scope (k.2:Int) s.cases }else s)) (fun k=>3*k.1.size) ((t.kids.drop 1).zipIdx) (N (cQ t 0) w s1) fun k hk s=>by
  have ga:GrS 0 s (if w1.scope≠w.scope then{ s with cases:=iS w1.scope (k.2:Int) s.cases }else s):=by
   split
   ·exact(GrS.refl s).other rfl rfl rfl
   ·exact GrS.refl s
  exact(ga.trans (b k.1 (cU (yA hk)) _ _)).mono (by omega)
 rw[QB]at g3;exact((g1.trans g2).trans g3).mono (by omega)
theorem aJ0(t:T)(h1:1≤t.kids.length)(c:∀k∈t.kids,NGs N k)(w:Wh)(s:FS):GrS (3*t.size) s (AS N t w s):=by
 have h0:=aS t;obtain⟨e,m0⟩:=JX h1;unfold AS;dsimp only;have g1:=c (cQ t 0) m0 { w with decl:=true } s;have g2:=sW (t.kids.drop 1) (fun k hk=>c k (cU hk)) w (N (cQ t 0) { w with decl:=true } s);have g3:=tH (fun s x=>match iD s.scopes w.scope x with
  |some (a,b)=>{ s with done:=iS ((a:Int),(b:Int)) ((gM (a:Int) s.cases).getD 0) s.done }
  |none=>s) (fun _=>0) (bB (cQ t 0)) (vM N (t.kids.drop 1) w (N (cQ t 0) { w with decl:=true } s)) fun x _ s=>by
  split
  ·exact(GrS.refl s).other rfl rfl rfl
  ·exact GrS.refl s
 have h5:∀l:List ByteArray,(l.map fun _=>0).sum=0:=fun l=>by induction l with
  |nil=>rfl
  |cons x r ih=>simp only[aL,dY,ih]
 rw[h5]at g3;exact((g1.trans g2).trans g3).mono (by omega)
theorem aGu(t:T)(a:∀k∈t.kids,NGs N k)(w:Wh)(s:FS):GrS (3*szs t.kids) s (uQ N t w s):=by
 unfold uQ;have g2:=tH (fun s (k:T×Nat)=>
  if t.op=60∨t.op=61∨t.op=64∨(t.op=63∧k.2=0)∨(t.op=62∧k.2=1)then N k.1 w s else N k.1 { w with decl:=false } s) (fun k=>3*k.1.size) (t.kids.zipIdx) s fun k hk s=>by
  split
  ·exact a k.1 (yA hk) _ _
  ·exact a k.1 (yA hk) _ _
 rw[QB]at g2;exact g2
theorem aJy(t:T)(hq:Ks t)(c:t.size≤2000)(e:∀k,k.size<t.size→(k∈t.kids∨k∈(cQ t 1).kids)→NGs N k):NGs (yS N fu) t:=by
 intro w s;have h0:=aS t;have b:∀k∈t.kids,k.size<t.size:=fun k hk=>by have:k.size≤szs t.kids:=T.eL (List.mem_map.2 ⟨k,hk,rfl⟩);omega
 have a:∀k∈t.kids,NGs N k:=fun k hk=>e k (b k hk) (.inl hk);unfold yS;split
 ·exact(aD5 t w s).mono (by omega)
 split
 ·rename_i h4;exact aNz t hq h4 c (fun k hk=>e k (by
   rcases hk with hk|hk
   ·exact b k hk
   ·have h1:k.size≤szs (cQ t 1).kids:=T.eL (List.mem_map.2 ⟨k,hk,rfl⟩);have h2:=aS (cQ t 1);have h3:=uH t 1;omega) hk) _ _
 split
 ·have h1:=jO t.kids true [];rw[bM]at h1;exact((vX s (by omega)).trans (sW _ a _ _)).mono (by omega)
 split
 ·rename_i f;exact aB3 t (hq.kc.one (by omega)) c a _ _
 split
 ·exact aJz t c a _ _
 split
 ·have h1:=oI 5 (bB (cQ t 0)) [];have h2:=kQ (cQ t 0);have h3:=uH t 0;rw[bM]at h1;exact((vX s (by omega)).trans (sW _ a _ _)).mono (by omega)
 split
 ·rename_i h3;exact aJ0 t (hq.dec h3) a _ _
 split
 ·split
  ·exact(aD5 _ w s).mono (by omega)
  ·exact(sW _ a _ _).mono (by omega)
 ·exact(aGu t a _ _).mono (by omega)
end
theorem NN(fu:Nat):∀(f:Nat) (t:T),dJ qS t→t.size≤2000→NGs (nbS fu f) t
 |0,t,_,_=>fun _ s=>(GrS.refl s).mono (by omega)
 | f + 1,t,hq,a=>aJy t hq.here.1 a fun k hk hm=>NN fu f k (by
     rcases hm with hm|hm
     ·exact hq.kid hm
     ·by_cases h:∃k1,t.kids[1]? =some k1
      ·obtain⟨k1,h1⟩:=h;rw[jE h1]at hm;exact(hq.kid (aB h1)).kid hm
      ·have h1:t.kids[1]? =none:=by
        cases h2:t.kids[1]? with
        |none=>rfl
        |some k1=>exact absurd ⟨k1,h2⟩ h
       unfold cQ at hm;rw[h1]at hm;exact absurd (show k∈([]:List T)from hm) (by simp)) (by omega)
end
section
open Go.RowKit Go.Vcg Go.MapKept
attribute [local irreducible] anI FB iB G GC GQ GA eV Calls IntKind.wrap Int.decLt Int.decLe
theorem HC(t:T)(u:Value)(hu:u.oneCell' =true)(k:Int)(w:World)(μ:Mem)(hμ:MOk μ w):bC 63 #[.agg (cO t u).toArray,.int .i64 k] w (.bool (jG t k)):=by
 have hb:jG t k=(decide (t.op=4)&&decide (anI t.n k≠0)):=rfl;refine aF Tryz.func63 rfl Tryz.ntmps63 (by simp) hμ ?_;try repeat' (first|refine KO ?_|(refine KV (b:=by((with_reducible apply aHu);exact rfl;exact rfl)) (c:=?_))|refine KZ ?_|refine NB fun b=>?_|(refine KB ?_ ?_<;>intro a))
 all_goals refine aQ rfl rfl (congrArg _ ?_)
 all_goals rw[hb]
 all_goals(simp_all;done)
theorem SP{x:ByteArray}{k:Int}{l:List Bd}{j:Nat}{y:Bd}(h:l[j]? =some y)(hb:∀i z,i<j→l[i]? =some z→z.name≠x):jY x k l=if y.name=x then(if k=3 then l.set j { y with kind:=k }else l)else l.take (j+1)++jY x k (l.drop (j+1)):=by
 induction l generalizing j with
 |nil=>simp at h
 | cons z r ih=>
   cases j with
   | zero=>
     cases h
     conv=>lhs;unfold jY
     split
     ·split<;>rfl
     ·rfl
   | succ j=>
     have b:=hb 0 z (by omega) rfl
     conv=>lhs;unfold jY
     rw[if_neg b,ih (by simpa using h) (fun i z' hi a=>hb (i+1) z' (by omega) (by simpa using a))];split
     ·split<;>rfl
     ·rfl
theorem IE{x:ByteArray}{k:Int}:∀{l:List Bd},(∀(i:Nat) (z:Bd),l[i]? =some z→z.name≠x)→jY x k l=l++[⟨x,k,false,0⟩]
 |[],_=>rfl
 | z::r,h=>by unfold jY;rw[if_neg (h 0 z rfl),IE (fun i z a=>h (i+1) z (by simpa using a))];rfl
theorem GU(l:List Bd)(lv:Value)(x:ByteArray)(k:Int)(μ:Mem)(hl:l.length≤10000000):
 RC 64 [lv,.string x,.int .i64 k] lv l (jY x k l) μ:=by
 intro w hμ hO;have g:=dW hO.diff;have r:∀x:Bd,(mI x).length=4:=fun _=>rfl;generalize f:jY x k l=l';have aa:=RU l;refine cI Tryz.func64 rfl Tryz.ntmps64 (by simp) hμ hO ?_;refine gT 0 rfl ?_;rintro A c rfl u;try repeat' (refine KZ ?_)
 refine cD (ι:=Nat) (fun j=>j≤l.length∧∀i z,i<j→l[i]? =some z→z.name≠x) (fun j=>l.length-j) (fun _=>μ) (fun j=>[(10,.int .i64 (j:Int)),(9,.int .i64 (l.length:Int)),(0,.slice A l.length c),(1,.string x),(2,.int .i64 k)]) (fun _=>[mF (.slice A l.length c) l]) 0 ⟨aN _,fun i z h=>absurd h (by omega)⟩ (fun a w hs=>hs.sel PU (fH _)) ?_;rintro j ⟨hj,hb⟩;by_cases hlt:j<l.length
 ·obtain⟨y,t⟩:∃y,l[j]? =some y:=⟨_,aA hlt⟩;rcases u.form with⟨-,h0,-⟩|⟨g4,rfl⟩
  ·exfalso;omega
  have e:=SP (k:=k) t hb;have p:(l.flatMap mI)[j*4+0]? =some (.string y.name):=by rw[lQ r l j 0 _ t (by omega)];rfl
  by_cases o:y.name=x
  ·rw[if_pos o]at e;by_cases hk:k=3
   ·rw[if_pos hk]at e;try repeat' (first|refine KO ?_|((with_reducible apply lU 0);(iterate 7 exact rfl);(rw[aa];omega);(dsimp only[fT]))|(refine KV (b:=by first|exact U1 j|((with_reducible apply eZ 0);(iterate 3 exact rfl);exact p)) (c:=?_))|refine KZ ?_)
    all_goals refine gJ (n' :=l'.length) (xs' :=l'.flatMap mI) 0 rfl (by rw[←f,e,fU]) (by rw[←f,e];exact oZ r (vs:=[.int .i64 k]) (k:=1) (n:=1) (by omega) l j _ t rfl) ?_
    all_goals exact oJ g rfl (cX rfl) rfl rfl
   ·rw[if_neg hk]at e;try repeat' (first|refine KO ?_|(refine KV (b:=by first|exact U1 j|((with_reducible apply eZ 0);(iterate 3 exact rfl);exact p)) (c:=?_))|refine KZ ?_)
    all_goals exact oJ g rfl (cX rfl) rfl (e.symm.trans f)
  ·rw[if_neg o]at e;try repeat' (first|refine KO ?_|(refine KV (b:=by first|exact U1 j|((with_reducible apply eZ 0);(iterate 3 exact rfl);exact p)) (c:=?_))|refine KZ ?_)
   all_goals exact cY (j+1) ⟨by omega,fun i z hi q=>by
    rcases dL i j with h1|h1
    ·exact hb i z h1 q
    ·obtain rfl:i=j:=by omega
     rw[t]at q;cases q;exact o⟩ (by omega) rfl PU (fH _)
 ·have e:=IE (x:=x) (k:=k) (l:=l) (fun i z q=>hb i z (by have:=(List.getElem?_eq_some_iff.1 q).1;omega) q);try repeat' (first|refine KZ ?_|(((with_reducible apply qA);(iterate 3 exact rfl);(repeat first|with_reducible exact fO|with_reducible apply gD);(iterate 6 exact rfl);(((with_reducible apply kB);exact rfl;(repeat with_reducible exact fW);exact rfl));exact rfl;exact gI (by(repeat first|with_reducible exact fZ|((with_reducible apply eW);exact rfl)));omega;omega;intro v))|refine NB fun b=>?_)
  all_goals refine gO (L' :=[_]) (eB (.refl _) (.nil _)) ?_
  all_goals refine gJ (n' :=l'.length) (xs' :=l'.flatMap mI) 0 rfl (by rw[←f,e];simp) (by rw[←f,e];simp) ?_
  all_goals exact oJ g rfl (cX rfl) rfl rfl
end
section
open Go.RowKit Go.Vcg Ou
theorem aMv{μ:Mem}{A:Option Addr}{n:Nat}{l:List ByteArray}(h:Sl mZ 1 μ A n l):Sl aCg 1 μ A n (l.map bl):=by
 refine⟨by rw[aO];exact h.1,fun g=>?_⟩;obtain⟨a,e,f⟩:=h.2 g;refine⟨a,e,fun i x b=>?_⟩;rw[aX]at b;cases c:l[i]? with
 |none=>rw[c]at b;cases b
 | some y=>
   rw[c]at b;cases b;have h2:=f i y c;have e2:aCg (bl y)=mZ y:=by
    show[Value.string (ofB (bl y))]=_
    rw[aBi]
   rw[e2];exact h2
theorem TT(s:ByteArray)(l:List ByteArray):pX s (l.map bl)=l.contains s:=by
 induction l with
 |nil=>rfl
 | cons y r ih=>
   unfold pX vK at ih⊢;simp only[aL,kJ,id_eq,nB]at ih⊢;rw[ih];have:(⟨(bl y).toArray⟩:ByteArray)=y:=aBi y;rw[aCy,this]
structure PB (p:EP) (n:Nat):Prop where
 ne:0<p.regs.length
 regs:p.regs.length+n≤90000
 labels:p.labels.length+n≤90000
 loops:p.loops.length+p.mine.length≤p.labels.length
def SB(s:ES)(n:Nat):Prop:=s.regs+DH s.names+2*n≤900000
theorem SB.bad{s:ES}{n:Nat}(h:SB s n)(c:Bool)(a e:Int):SB (iX c a e s) n:=by
 unfold SB at h⊢;rw[yM,aHh];exact h
theorem SB.gr{F:ByteArray→Prop}{s s' :ES}{n m:Nat}(h:SB s (n+m))(hg:Gr F (2*n) s s'):SB s' m:=by
 unfold SB at h⊢;have:=hg.wt;omega
theorem SB.mono{s:ES}{n m:Nat}(h:SB s n)(hm:m≤n):SB s m:=by unfold SB at h⊢;omega
theorem PB.mono{p:EP}{n m:Nat}(h:PB p n)(hm:m≤n):PB p m:=⟨h.ne,by have:=h.regs;omega,by have:=h.labels;omega,h.loops⟩
def NCk(N:T→EP→ES→ES)(k:T):Prop:=∀(xb mb:Nat) (u pv:Value) (p:EP) (s:ES) (μ:Mem),KR μ k.kids u→PV μ p pv→PB p k.size→SB s k.size→vN μ→
 CEs 71 [.pointer (some ⟨xb,0,none⟩),.agg (cO k u).toArray,pv] xb mb s (N k p s) μ
def BCk(B:T→EP→ED→ES→ES)(k:T):Prop:=∀(xb mb:Nat) (u pv dv:Value) (p:EP) (d:ED) (s:ES) (μ:Mem),KR μ k.kids u→PV μ p pv→IsV μ dv d.ins→d.ins.length≤100000→PB p k.size→SB s k.size→vN μ→
 CEs 101 [.pointer (some ⟨xb,0,none⟩),.agg (cO k u).toArray,pv,.agg (vF (d,dv)).toArray] xb mb s (B k p d s) μ
abbrev FF:ByteArray→Prop:=fun _=>False
def NG(N:T→EP→ES→ES)(k:T):Prop:=∀(p:EP) (s:ES),Gr FF (2*k.size) s (N k p s)
def BG(B:T→EP→ED→ES→ES)(k:T):Prop:=∀(p:EP) (d:ED) (s:ES),Gr FF (2*k.size) s (B k p d s)
theorem uI{α:Type}(g:ES→α→ES)(l:List α)(s:ES){i:Nat}{k:α}(h:l[i]? =some k):(l.take (i+1)).foldl g s=g ((l.take i).foldl g s) k:=by
 rw[cG,iK,h];rfl
theorem kK{l:List T}{i:Nat}{k:T}(h:l[i]? =some k):szs (l.take i)+k.size≤szs l:=by
 obtain⟨h1,h2⟩:=List.getElem?_eq_some_iff.1 h;have e:szs l=szs (l.take i)+szs (l.drop i):=by rw[←BE,dN]
 rw[eE h1,bK,h2]at e;omega
attribute [local irreducible] wdL anI nW mkD G GC GQ GA eV Calls IntKind.wrap Int.decLt Int.decLe
theorem OE(s:ByteArray)(l:List ByteArray)(v:Value)(w:World)(μ:Mem)(hμ:MOk μ w)(hv:SsV μ v l)(hn:l.length≤100000):
 bC 107 #[v,.string s] w (.bool (l.contains s)):=by
 obtain⟨A,c,rfl,a,-⟩:=hv;rw[←TT];exact AV s (l.map bl) A l.length c w μ hμ (aMv a) hn
theorem lK(N:T→EP→ES→ES)(l:List T)(lv pv:Value)(p:EP)(s:ES)(μ:Mem)(xb mb:Nat)(hN:∀k∈l,NCk N k∧NG N k)(hk:KR μ l lv)(hp:PV μ p pv)(hB:∀k∈l,PB p k.size)(hS:SB s (szs l))(hl:l.length≤100000)(hm:vN μ):
 CEs 48 [.pointer (some ⟨xb,0,none⟩),lv,pv] xb mb s (nC N l p s) μ:=by
 intro w fs hμ f hO;have z:=dW hO.diff;have ag:=hp;obtain⟨r,lb,lo,mi,rfl,af,t,o,j⟩:=hp;have o1:=af.one;have o2:=t.one;have o3:=o.one;have o4:=j.one;obtain⟨A,c,rfl,hcap,v⟩:=hk.form;refine cI Tryz.func48 rfl Tryz.ntmps48 (by simp) hμ hO ?_;try repeat' (first|refine KZ ?_|refine NB fun b=>?_)
 obtain⟨bp,aa⟩:∃y,y=b:=⟨_,rfl⟩;rw[←aa];clear aa;refine cD (ι:=Nat×Mem×List FR) (fun q=>q.1≤l.length∧MLe μ q.2.1∧ER q.2.1 q.2.2 (nC N (l.take q.1) p s)) (fun q=>l.length-q.1) (fun q=>q.2.1) (fun q=>[(10,.int .i64 (q.1:Int)),(9,.int .i64 (l.length:Int)),(8,.slice A l.length c),(5,.pointer (some ⟨bp,0,none⟩)),(0,.pointer (some ⟨xb,0,none⟩))]) (fun q=>.inl ⟨bp,101,12,idx 0 (nL p r lb lo mi)⟩::EB xb mb (nC N (l.take q.1) p s) q.2.2) (0,μ,fs) ⟨aN _,MLe.refl _,f⟩ (fun a w hs=>hs.sel PU (gB _)) ?_;rintro⟨i,μ0,fs0⟩ ⟨hi,hle,f⟩;dsimp only at hi hle f⊢;by_cases hlt:i<l.length
 ·obtain⟨k,e⟩:∃k,l[i]? =some k:=⟨_,aA hlt⟩;obtain⟨ad,x,rfl,aj,ao,ak⟩:=v i k e;have ai:=aj.mono hle;have g:=aB e;obtain⟨ah,-⟩:=hN k g;have ab:=kK e;have an:=AD (F:=FF) (l.take i) (fun k hk=>(hN k (bE hk)).2) p s;have ae:=SB.gr (hS.mono ab) an;have h:N k p (nC N (l.take i) p s)=nC N (l.take (i+1)) p s:=(uI (fun s k=>N k p s) l s e).symm;try repeat' (first|refine KO ?_|(refine CF 71 ?_;refine jP 2 rfl rfl rfl EN rfl f (ah xb mb _ _ p _ _ (ak.mono hle) (ag.mono hle) (hB k g) ae (hm.mono hle)) ?_;(intro v1 μ1 i1 u f);(dsimp only[aU,aY]))|(refine KV (b:=by first|exact U1 i|exact U4 ai) (c:=?_))|refine KZ ?_|refine NB fun b=>?_)
  rw[h]at f⊢;exact cY (i+1,μ1,i1) ⟨by dsimp only;omega,hle.trans u,f⟩ (by dsimp only;omega) rfl PU (eB (.refl _) (bY _ (gB _)))
 ·have al:i=l.length:=by omega
  subst al;rw[aK (aC _)]at f⊢;try repeat' (refine KZ ?_)
  all_goals exact gY 1 fs0 (by exact .inr rfl) z rfl rfl rfl f
theorem AO(N:T→EP→ES→ES)(t:T)(z:NCk N t)(u pv:Value)(p:EP)(s:ES)(μ:Mem)(xb mb:Nat)(hk:KR μ t.kids u)(g:PV μ p pv)(hB:PB p t.size)(y:SB s t.size)(hm:vN μ):
 CEs 104 [.pointer (some ⟨xb,0,none⟩),.agg (cO t u).toArray,pv] xb mb s (lN N t p s) μ:=by
 intro w fs hμ o v;have l:=dW v.diff;have f:=g;obtain⟨r,lb,lo,mi,rfl,q,j,i,h⟩:=g;have o1:=q.one;have o2:=j.one;have o3:=i.one;have o4:=h.one;have ou:=hk.one;generalize e:lN N t p s=s';unfold lN at e;have c:=fun(w:World) (μc:Mem) (hw:MOk μc w)=>aAa t.n 1 w μc hw;generalize pS t.n 1=b1 at c e;refine cI Tryz.func104 rfl Tryz.ntmps104 (by simp) hμ v ?_;try repeat' (first|refine KZ ?_|refine NB fun b=>?_)
 refine aZ 26 _ (by kernel_rfl) rfl (cP (aD aT)) ?_;all_goals(refine DD 0 ?_;refine DD 1 ?_;refine DD 2 ?_;refine DD 3 ?_;refine DD 4 ?_;refine DD 5 ?_)
 all_goals(try(refine D7 6 ?_;(repeat' (refine KB ?_ ?_<;>intro g))))
 all_goals(refine DD 6 ?_;refine DD 7 ?_)
 all_goals(first|(refine D3 8 ?_;refine D5 ?_;refine K2 137 (fun w μc hw x=>c w μc hw) ?_;refine D9 ?_)|refine D3 8 (D6 ?_))
 all_goals(refine DD 9 ?_;refine DD 10 ?_)
 all_goals(try(refine D7 11 ?_;(repeat' (refine KB ?_ ?_<;>intro g))))
 all_goals(refine DD 11 ?_;refine DD 12 ?_;refine DD 13 ?_;refine DD 14 ?_)
 all_goals(try(refine D7 15 ?_;(repeat' (first|refine KO ?_|(refine KB ?_ ?_<;>intro g)))))
 all_goals(refine DD 15 ?_;refine DD 16 ?_;refine DD 17 ?_;refine DD 18 ?_)
 all_goals(try(refine D7 19 ?_;(repeat' (refine KB ?_ ?_<;>intro g))))
 all_goals(refine DD 19 ?_;refine DD 20 ?_;refine DD 21 ?_;refine DD 22 ?_;refine DD 23 ?_;refine DD 24 ?_)
 all_goals(refine D3 25 ?_;refine D5 ?_;(refine CF 106 ?_;refine jP 2 rfl rfl rfl EN rfl o (rP xb mb t _ ou _ _ _ _) ?_;intro v1 μ1 i1 a o;dsimp only[aU,aY];have hk:=hk.mono a;have f:=f.mono a;have hm:=hm.mono a);refine D9 ?_)
 all_goals refine D8 ?_
 all_goals try repeat' (first|refine KO ?_|(refine CF 71 ?_;refine jP 2 rfl rfl rfl EN rfl o (z xb mb _ _ p _ _ hk f hB (y.bad _ _ _) hm) ?_;intro v1 μ1 i1 a o;dsimp only[aU,aY])|refine KZ ?_)
 all_goals exact gY 2 i1 (by exact .inr rfl) l rfl rfl (by rw[←e];simp_all) o
theorem AM(N:T→EP→ES→ES)(t:T)(hN:NCk N t)(u pv mv:Value)(p:EP)(mine:List ByteArray)(s:ES)(μ:Mem)(xb mb:Nat)(hk:KR μ t.kids u)(hp:PV μ p pv)(z:SsV μ mv mine)(h:PB { p with loops:=p.loops++mine } t.size)(hS:SB s t.size)(hm:vN μ):
 CEs 141 [.pointer (some ⟨xb,0,none⟩),.agg (cO t u).toArray,pv,mv] xb mb s (sA N t p mine s) μ:=by
 intro w fs hμ q hO;have o:=dW hO.diff;have af:=hp;obtain⟨r,lb,lo,mi,rfl,j,g,f,e⟩:=hp;have o1:=j.one;have o2:=g.one;have o3:=f.one;have o4:=e.one;have ou:=hk.one;obtain⟨A,c,rfl,ab,ag⟩:=z;have l:=h.loops;have aa:=h.labels;dsimp only at l aa;rw[aI]at l;have e1:(p.loops.flatMap mZ).length=p.loops.length:=RQ p.loops;have e2:=MQ p.loops;have e3:(mine.flatMap mZ).length=mine.length:=RQ mine;have e4:=MQ mine;refine cI Tryz.func141 rfl Tryz.ntmps141 (by simp) hμ hO ?_;try repeat' (first|((with_reducible show GC _ _ (Code.region 3 _ _) _ _ _ _);(apply dX))|refine KZ ?_|((with_reducible apply F3 108);exact rfl;exact EN;exact fun w μc hw x=>CG w μc hw p.loops lo (f.mono x.le) (by omega);intro vr)|(refine AX (S:=by(with_reducible apply aAo);exact rfl;exact ab;simp) (A:=by rw[e3,mU]) (O:=e4) (k:=fun v=>?_);(with_reducible apply fI 0);exact rfl;rintro A1 c1 rfl ad)|refine NB fun b=>?_)
 refine gcs (qN rfl ?_);intro μ4 a i;have hv:=SsV.nH (xs:=p.loops++mine) i (by simp) (by rw[cZ]);have y:PV μ4 { p with loop:=true,loops:=p.loops++mine } (.agg (nL { p with loop:=true,loops:=p.loops++mine } r lb (.slice A1 (p.loops.length+mine.length) c1) mi).toArray):=⟨_,_,_,_,rfl,j.mono a,g.mono a,hv,e.mono a⟩;have q:=q.mono a;try repeat' (first|refine KO ?_|(refine CF 104 ?_;refine jP 2 rfl rfl rfl EN rfl q (AO N t hN _ _ { p with loop:=true,loops:=p.loops++mine } _ _ xb mb (hk.mono a) y ⟨h.ne,h.regs,h.labels,h.loops⟩ hS (hm.mono a)) ?_;intro v1 μ1 i1 ae q;dsimp only[aU,aY])|refine KZ ?_)
 exact gY 2 i1 (by exact .inr rfl) o rfl rfl rfl q
end
section
open Go.RowKit Go.Vcg Ou
theorem OU(xb mb:Nat)(t:T)(u:Value)(hu:u.oneCell' =true)(c c' :Bool)(h:c=c')(e:Int)(s:ES)(μ:Mem):
 CEs 106 [.pointer (some ⟨xb,0,none⟩),.agg (cO t u).toArray,.int .i64 e,.bool c] xb mb s (iX c' t.at' e s) μ:=by
 subst h;exact rP xb mb t u hu c e s μ
theorem iV{t:T}{i:Nat}(h:i<t.kids.length):t.kids[i]? =some (cJ t i):=by
 unfold cJ;rw[aA h];rfl
theorem AU(s:ByteArray)(l:List ByteArray)(b:Bool)(hb:l.contains s=b)(v:Value)(w:World)(μ:Mem)(hμ:MOk μ w)(hv:SsV μ v l)(hn:l.length≤100000):
 bC 107 #[v,.string s] w (.bool b):=by
 subst hb;exact OE s l v w μ hμ hv hn
attribute [local irreducible] wdL anI nW mkD G GC GQ GA eV Calls IntKind.wrap Int.decLt Int.decLe
theorem aCi(t:T)(hs:t.s.size≤100000)(u pv:Value)(p:EP)(s:ES)(μ:Mem)(xb mb:Nat)(ou:u.oneCell' =true)(o:PV μ p pv)(hl:p.labels.length≤100000)(v:p.loops.length≤100000)(hm:vN μ):
 CEs 144 [.pointer (some ⟨xb,0,none⟩),.agg (cO t u).toArray,pv] xb mb s (IX wdF t p s) μ:=by
 intro w fs hμ g x;have h:=dW x.diff;have j:=o;obtain⟨r,lb,lo,mi,rfl,q,e,c,l⟩:=o;have o1:=q.one;have o2:=e.one;have o3:=c.one;have o4:=l.one;generalize f:IX wdF t p s=s';unfold IX at f;refine cI Tryz.func144 rfl Tryz.ntmps144 (by simp) hμ x ?_;by_cases h0:t.s=⟨#[]⟩
 ·rw[if_pos h0]at f;try repeat' (first|refine KO ?_|(refine CF 106 ?_;refine jP 2 rfl rfl rfl EN rfl g (rP xb mb t _ ou _ _ _ _) ?_;intro v1 μ1 i1 a g;dsimp only[aU,aY])|refine KZ ?_|refine NB fun b=>?_|(refine KB ?_ ?_<;>intro o))
  all_goals exact gY 2 i1 (by exact .inl rfl) h rfl rfl (by rw[←f];simp_all) g
 rw[if_neg h0]at f;cases hA:p.labels.contains t.s;all_goals cases y:p.loops.contains t.s
 all_goals rw[hA,y]at f
 all_goals try repeat' (first|refine KO ?_|(refine CF 105 ?_;refine jP 2 rfl rfl rfl EN rfl g (sK xb mb t _ ou _ (by omega) p _ _ _ (j) hm) ?_;intro v1 μ1 i1 a g;dsimp only[aU,aY];have j:=j.mono a;have e:=e.mono a;have c:=c.mono a;have hm:=hm.mono a)|refine KZ ?_|refine NB fun b=>?_)
 all_goals
  refine aZ 10 _ (by kernel_rfl) rfl (aD (aD aT)) ?_;all_goals(refine DD 0 ?_;refine DD 1 ?_;refine DD 2 ?_;refine DD 3 ?_;refine DD 4 ?_;refine DD 5 ?_;refine DD 6 ?_)
  all_goals(refine D3 7 ?_;refine D5 ?_;(((with_reducible apply C1);exact rfl;exact EN;exact fun w μc hw i=>AU t.s p.labels _ hA lb w μc hw (e.mono i.le) hl));refine D9 ?_)
  all_goals refine DD 8 ?_
  all_goals(refine D3 9 ?_;refine D5 ?_;(refine CF 106 ?_;refine jP 2 rfl rfl rfl EN rfl g (rP xb mb t _ ou _ _ _ _) ?_;intro v1 μ1 i1 a g;dsimp only[aU,aY];have c:=c.mono a);refine D9 ?_)
  all_goals refine D8 ?_
 all_goals try repeat' (refine KZ ?_)
 all_goals
  refine aZ 15 _ (by kernel_rfl) rfl (aD (aD aT)) ?_;all_goals(refine DD 0 ?_;refine DD 1 ?_;refine DD 2 ?_;refine DD 3 ?_;refine DD 4 ?_;refine DD 5 ?_)
  all_goals(try(refine D7 6 ?_;(repeat' (refine KB ?_ ?_<;>intro o))))
  all_goals(refine DD 6 ?_;refine DD 7 ?_;refine DD 8 ?_;refine DD 9 ?_;refine DD 10 ?_)
  all_goals(first|(refine D3 11 ?_;refine D5 ?_;(((with_reducible apply C1);exact rfl;exact EN;exact fun w μc hw i=>AU t.s p.loops _ y lo w μc hw (c.mono i.le) v));refine D9 ?_)|refine D3 11 (D6 ?_))
  all_goals(refine DD 12 ?_;refine DD 13 ?_)
  all_goals(refine D3 14 ?_;refine D5 ?_;(refine CF 106 ?_;refine jP 2 rfl rfl rfl EN rfl g (rP xb mb t _ ou _ _ _ _) ?_;intro v1 μ1 i1 a g;dsimp only[aU,aY]);refine D9 ?_)
  all_goals refine D8 ?_
 all_goals exact gY 2 i1 (by exact .inr rfl) h rfl rfl (by rw[←f];simp_all) g
theorem aCk(N:T→EP→ES→ES)(B:T→EP→ED→ES→ES)(t:T)(hq:Kc t)(hs:t.s.size≤100000)(bm:t.size≤90000)(hN:∀k∈t.kids,NCk N k∧NG N k)(aj:∀k∈t.kids,BCk B k∧BG B k):BCk (DF wdF N B) t:=by
 intro xb mb u pv dv p d s μ hk hp hd ap hB hS hm;intro w fs hμ j hO;have z:=dW hO.diff;have v:=hp;obtain⟨r,lb,lo,mi,rfl,bf,a1,az,ay⟩:=hp;have o1:=bf.one;have o2:=a1.one;have o3:=az.one;have o4:=ay.one;have ou:=hk.one;have od:=hd.one;have ak:=hB;have bo:=hB.regs;have an:=hB.labels;have ax:=aS t;obtain⟨A,c,rfl,hcap,aa⟩:=hk.form;generalize h:DF wdF N B t p d s=s';unfold DF at h;refine cI Tryz.func101 rfl Tryz.ntmps101 (by simp) hμ hO ?_;by_cases bc:t.op=34
 ·rw[if_pos bc]at h;have bk:=rG (F:=FF) wdF t t.s p s;have aw:DH (nO wdF t t.s p s).names≤1000000:=by have h9:=bk.wt;unfold SB at hS;omega
  try repeat' (first|refine KO ?_|(refine CF 105 ?_;refine jP 3 rfl rfl rfl EN rfl j (sK xb mb t _ ou _ (by omega) p _ _ _ v hm) ?_;intro v1 μ1 i1 f j;dsimp only[aU,aY];have hd:=hd.mono f)|(refine CF 139 ?_;refine jP 3 rfl rfl rfl EN rfl j (yI xb mb t _ ou t.s d _ _ _ hd ap aw) ?_;intro v1 μ1 i1 f j;dsimp only[aU,aY])|refine KZ ?_|refine NB fun b=>?_)
  all_goals exact gY 3 i1 (by exact .inr rfl) z rfl rfl h j
 rw[if_neg bc]at h;by_cases al:t.op=51∨t.op=52
 ·rw[if_pos al]at h;rcases al with al|al
  all_goals try repeat' (first|refine KO ?_|(refine CF 106 ?_;refine jP 3 rfl rfl rfl EN rfl j (rP xb mb t _ ou _ _ _ _) ?_;intro v1 μ1 i1 f j;dsimp only[aU,aY])|refine KZ ?_|refine NB fun b=>?_)
  all_goals exact gY 3 i1 (by exact .inr rfl) z rfl rfl h j
 rw[if_neg al]at h;by_cases au:t.op=63
 ·rw[if_pos au]at h;have h2:=hq.two (by simp[au]);obtain⟨r2,an⟩:=yT h2;have hz:=ax;rw[an,bK,bK]at hz;obtain⟨ad,x0,rfl,ai,a7,ar⟩:=aa 0 _ (iV (by omega));obtain⟨ad',x1,e,ae,a6,af⟩:=aa 1 _ (iV (by omega));cases e;have o:=eQ (t:=t) (i:=0) (by omega);have ab:=eQ (t:=t) (i:=1) (by omega);have ah:=SB.gr (s' :=B (cJ t 0) p d s) (n:=(cJ t 0).size) (m:=(cJ t 1).size) (hS.mono (by omega)) ((aj _ o).2 p d s);try repeat' (first|refine KZ ?_|refine NB fun b=>?_)
  refine aZ 8 _ (by kernel_rfl) rfl (aD (aD (aD aT))) ?_;all_goals(refine DD 0 ?_;refine D1 1 ?_;refine DD 2 ?_;refine D2 3 rfl (by exact U1 0) ?_;refine D2 4 rfl (by exact U4 ai) ?_;refine DD 5 ?_;refine DD 6 ?_)
  all_goals(refine D3 7 ?_;refine D5 ?_;refine CF 101 ?_;refine jP 3 rfl rfl rfl EN rfl j ((aj _ o).1 xb mb _ _ _ p d s _ ar v hd ap (ak.mono (by omega)) (hS.mono (by omega)) hm) ?_;intro v1 μ1 i1 f j;dsimp only[aU,aY];have ae:=ae.mono f;have af:=af.mono f;have v:=v.mono f;have hm:=hm.mono f;refine D9 ?_)
  all_goals refine D8 ?_
  all_goals try repeat' (refine KZ ?_)
  refine aZ 7 _ (by kernel_rfl) rfl (aD (aD (aD aT))) ?_;all_goals(refine DD 0 ?_;refine D1 1 ?_;refine DD 2 ?_;refine D2 3 rfl (by exact U1 1) ?_;refine D2 4 rfl (by exact U4 ae) ?_;refine DD 5 ?_)
  all_goals(refine D3 6 ?_;refine D5 ?_;refine CF 71 ?_;refine jP 3 rfl rfl rfl EN rfl j ((hN _ ab).1 xb mb _ _ p _ _ af v (ak.mono (by omega)) ah hm) ?_;intro v1 μ1 i1 f j;dsimp only[aU,aY];refine D9 ?_)
  all_goals refine D8 ?_
  all_goals try repeat' (refine KZ ?_)
  all_goals exact gY 3 i1 (by exact .inr rfl) z rfl rfl h j
 rw[if_neg au]at h;by_cases av:t.op=62
 ·rw[if_pos av]at h;have h2:=hq.two (by simp[av]);obtain⟨r2,an⟩:=yT h2;have hz:=ax;rw[an,bK,bK]at hz;obtain⟨ad,x0,rfl,ai,a7,ar⟩:=aa 0 _ (iV (by omega));obtain⟨ad',x1,e,ae,a6,af⟩:=aa 1 _ (iV (by omega));cases e;have o:=eQ (t:=t) (i:=0) (by omega);have ab:=eQ (t:=t) (i:=1) (by omega);have ah:=SB.gr (s' :=N (cJ t 0) p s) (n:=(cJ t 0).size) (m:=(cJ t 1).size) (hS.mono (by omega)) ((hN _ o).2 p s);try repeat' (first|refine KZ ?_|refine NB fun b=>?_)
  refine aZ 7 _ (by kernel_rfl) rfl (aD (aD (aD aT))) ?_;all_goals(refine DD 0 ?_;refine D1 1 ?_;refine DD 2 ?_;refine D2 3 rfl (by exact U1 0) ?_;refine D2 4 rfl (by exact U4 ai) ?_;refine DD 5 ?_)
  all_goals(refine D3 6 ?_;refine D5 ?_;refine CF 71 ?_;refine jP 3 rfl rfl rfl EN rfl j ((hN _ o).1 xb mb _ _ p s _ ar v (ak.mono (by omega)) (hS.mono (by omega)) hm) ?_;intro v1 μ1 i1 f j;dsimp only[aU,aY];have ae:=ae.mono f;have af:=af.mono f;have v:=v.mono f;have hd:=hd.mono f;have hm:=hm.mono f;refine D9 ?_)
  all_goals refine D8 ?_
  all_goals try repeat' (refine KZ ?_)
  refine aZ 8 _ (by kernel_rfl) rfl (aD (aD (aD aT))) ?_;all_goals(refine DD 0 ?_;refine D1 1 ?_;refine DD 2 ?_;refine D2 3 rfl (by exact U1 1) ?_;refine D2 4 rfl (by exact U4 ae) ?_;refine DD 5 ?_;refine DD 6 ?_)
  all_goals(refine D3 7 ?_;refine D5 ?_;refine CF 101 ?_;refine jP 3 rfl rfl rfl EN rfl j ((aj _ ab).1 xb mb _ _ _ p d _ _ af v hd ap (ak.mono (by omega)) ah hm) ?_;intro v1 μ1 i1 f j;dsimp only[aU,aY];refine D9 ?_)
  all_goals refine D8 ?_
  all_goals try repeat' (refine KZ ?_)
  all_goals exact gY 3 i1 (by exact .inr rfl) z rfl rfl h j
 rw[if_neg av]at h;by_cases ag:t.op=60∨t.op=61∨t.op=64
 rotate_left
 ·rw[if_neg ag]at h;try repeat' (first|refine KZ ?_|refine NB fun b=>?_)
  all_goals exact gY 3 fs (by exact .inr rfl) z rfl rfl h j
 rw[if_pos ag]at h;have hlen:t.kids.length≤100000:=by
  have h9:∀l:List T,l.length≤szs l:=fun l=>by
   induction l with
   |nil=>exact aN _
   | cons k r ih=>
     rw[bK,bH];have:=aS k;omega
  have:=h9 t.kids;omega
 try repeat' (first|((with_reducible show GC _ _ (Code.seq (Code.region 1 _ _) _) _ _ _ _);(apply dX))|refine KZ ?_|refine NB fun b=>?_)
 rename_i bn bp;obtain⟨bd,bb⟩:∃y,y=b:=⟨_,rfl⟩;rw[←bb];clear bb;refine gcs ?_;rcases ag with ag|ag|ag
 all_goals try repeat' (refine KZ ?_)
 all_goals try(exfalso;omega)
 all_goals
  refine cD (ι:=Nat×Mem×List FR) (fun q=>q.1≤t.kids.length∧MLe μ q.2.1∧ER q.2.1 q.2.2 ((t.kids.take q.1).foldl (fun s k=>B k p d s) s)) (fun q=>t.kids.length-q.1) (fun q=>q.2.1) (fun q=>[(73,.int .i64 (q.1:Int)),(72,.int .i64 (t.kids.length:Int)),(71,.slice A t.kids.length c),(6,.pointer (some ⟨bp,0,none⟩)),(7,.pointer (some ⟨bd,0,none⟩)),(0,.pointer (some ⟨xb,0,none⟩))]) (fun q=>.inl ⟨bd,131,4,idx 0 (vF (d,dv))⟩::.inl ⟨bp,101,12,idx 0 (nL p r lb lo mi)⟩::EB xb mb ((t.kids.take q.1).foldl (fun s k=>B k p d s) s) q.2.2) (0,μ,fs) ⟨aN _,MLe.refl _,j⟩ (fun a w hs=>hs.sel PU (fA (.cells PU) (fA (.cells PU) (bY _ (gB _))))) ?_;rintro⟨i,μ0,fs0⟩ ⟨hi,hle,j⟩;dsimp only at hi hle j⊢;by_cases hlt:i<t.kids.length
  ·obtain⟨k,ao⟩:∃k,t.kids[i]? =some k:=⟨_,aA hlt⟩;obtain⟨ad,x,rfl,ai,bq,bi⟩:=aa i k ao;have bh:=ai.mono hle;have a8:=aB ao;obtain⟨bg,-⟩:=aj k a8;have hz:=kK ao;have ba:=pF (F:=FF) (g:=fun s k=>B k p d s) (c:=fun k=>2*T.size k) (t.kids.take i) s (fun k hk s=>(aj k (bE hk)).2 p d s);rw[rB]at ba;have ah:=SB.gr (n:=szs (t.kids.take i)) (m:=k.size) (hS.mono (by omega)) ba;have aq:B k p d ((t.kids.take i).foldl (fun s k=>B k p d s) s)=(t.kids.take (i+1)).foldl (fun s k=>B k p d s) s:=(uI (fun s k=>B k p d s) t.kids s ao).symm;try repeat' (first|refine KO ?_|(refine CF 101 ?_;refine jP 3 rfl rfl rfl EN rfl j (bg xb mb _ _ _ p d _ _ (bi.mono hle) (v.mono hle) (hd.mono hle) ap (ak.mono (by omega)) ah (hm.mono hle)) ?_;(intro v1 μ1 i1 f j);(dsimp only[aU,aY]))|(refine KV (b:=by first|exact U1 i|exact U4 bh) (c:=?_))|refine KZ ?_|refine NB fun b=>?_)
   rw[aq]at j⊢;exact cY (i+1,μ1,i1) ⟨by dsimp only;omega,hle.trans f,j⟩ (by dsimp only;omega) rfl PU (eB (.refl _) (eB (.refl _) (bY _ (gB _))))
  ·have bj:i=t.kids.length:=by omega
   subst bj;rw[aK (aC _)]at j⊢;try repeat' (refine KZ ?_)
   all_goals exact gY 2 fs0 (by exact .inr rfl) z rfl rfl h j
end
section
open Go.RowKit Go.Vcg Ou
theorem iG:∀l:List T,l.length≤szs l
 |[]=>aN _
 | k::r=>by have:=iG r;have:=aS k;rw[bK,bH];omega
theorem PZ{k:T}(h:1≤k.kids.length):(cJ k 0).size+szs (k.kids.drop 1)+1=k.size:=by
 have h2:=aS k;have h3:=IW h;rw[h3,bK]at h2;omega
def JU(t k:T)(each:Bool):Bool:=decide (k.kids.length=1)&& !each&&(decide (t.n=2)||decide ((cJ k 0).op≠34))
def qE(t:T):Prop:=Kc t∧t.s.size≤100000
attribute [local irreducible] wdL anI nW mkD G GC GQ GA eV Calls IntKind.wrap Int.decLt Int.decLe
theorem aCc(N:T→EP→ES→ES)(B:T→EP→ED→ES→ES)(t:T)(hq:dJ qE t)(h2:t.op=2)(bx:t.size≤80000)(hN:∀k,dJ qE k→k.size<t.size→NCk N k∧NG N k)(bh:∀k,dJ qE k→k.size<t.size→BCk B k∧BG B k)
 (xb mb:Nat)(u pv:Value)(p:EP)(each:Bool)(s:ES)(μ:Mem)(hk:KR μ t.kids u)(hp:PV μ p pv)(hB:PB p t.size)(hS:SB s t.size)(hm:vN μ):
 CEs 98 [.pointer (some ⟨xb,0,none⟩),.agg (cO t u).toArray,pv,.bool each] xb mb s (EU N B t p each s) μ:=by
 intro w fs hμ v hO;have bf:=dW hO.diff;have a6:=hp;obtain⟨r,lb,lo,mi,rfl,al,a1,az,ay⟩:=hp;have o1:=al.one;have o2:=a1.one;have o3:=az.one;have o4:=ay.one;have ax:=al;obtain⟨Ar,cr,rfl,-,-⟩:=ax;have ou:=hk.one;have hne:=hB.ne;have b2:=hB.regs;have bz:=aS t;have hlen:=iG t.kids;have hsub:=hq.here.1.sub h2;obtain⟨nv,a8,an⟩:=HQ μ p _ a6 hne (by omega);have a7:=a8;obtain⟨An,cn,rfl,-,-⟩:=a7;obtain⟨A,c,rfl,hcap,bb⟩:=hk.form;generalize af:EU N B t p each s=s';unfold EU at af;dsimp only at af;have ak:(if t.n≠0 then(⟨true,mB p,0,false⟩:ED)else⟨false,p.regs,0,false⟩).ins.length≤100000:=by
  split
  ·show(mB p).length≤100000
   unfold mB;rw[dA];omega
  ·show p.regs.length≤100000
   omega
 generalize ah:(if t.n≠0 then(⟨true,mB p,0,false⟩:ED)else⟨false,p.regs,0,false⟩)=dd at af ak;refine cI Tryz.func98 rfl Tryz.ntmps98 (by simp) hμ hO ?_;try repeat' (first|((with_reducible show GC _ _ (Code.seq (Code.seq (Code.region 2 _ _) _) _) _ _ _ _);(apply dX))|refine KZ ?_|refine NB fun b=>?_)
 rename_i bn bp;obtain⟨bd,bg⟩:∃y,y=b:=⟨_,rfl⟩;rw[←bg];clear bg;refine gcs (iT (ι:=Value) (fun dv=>IsV μ dv dd.ins) (fun _=>μ) (fun _=>[(8,.pointer (some ⟨bd,0,none⟩)),(6,.pointer (some ⟨bp,0,none⟩)),(5,.pointer (some ⟨bn,0,none⟩)),(3,.bool each),(0,.pointer (some ⟨xb,0,none⟩))]) (fun dv=>.inl ⟨bd,131,4,idx 0 (vF (dd,dv))⟩::.inl ⟨bp,101,12,idx 0 (nL p (.slice Ar p.regs.length cr) lb lo mi)⟩::.inl ⟨bn,24,6,idx 0 (cO t (.slice A t.kids.length c))⟩::EB xb mb s fs) ?_ ?_)
 ·by_cases hn:t.n=0
  ·rw[if_neg (fun h=>h hn)]at ah;subst ah;try repeat' (refine KZ ?_)
   all_goals exact fJ _ al rfl PU (fA (.cells PU) (fA (.cells PU) (fA (.cells PU) (gB _))))
  ·rw[if_pos hn]at ah;subst ah;try repeat' (first|refine KO ?_|refine K2 102 an ?_|refine KZ ?_)
   all_goals exact fJ _ a8 rfl PU (fA (.cells PU) (fA (.cells PU) (fA (.cells PU) (gB _))))
 intro dv bc;have odv:=bc.one;try repeat' (refine KZ ?_)
 refine cD (ι:=Nat×Mem×List FR) (fun q=>q.1≤t.kids.length∧MLe μ q.2.1∧ER q.2.1 q.2.2 ((t.kids.take q.1).foldl (fun s k=>nC N (k.kids.drop 1) p (B (cJ k 0) p dd (iX (JU t k each) k.at' 36 s))) s)) (fun q=>t.kids.length-q.1) (fun q=>q.2.1) (fun q=>[(24,.int .i64 (q.1:Int)),(23,.int .i64 (t.kids.length:Int)),(22,.slice A t.kids.length c),(8,.pointer (some ⟨bd,0,none⟩)),(6,.pointer (some ⟨bp,0,none⟩)),(5,.pointer (some ⟨bn,0,none⟩)),(3,.bool each),(0,.pointer (some ⟨xb,0,none⟩))]) (fun q=>.inl ⟨bd,131,4,idx 0 (vF (dd,dv))⟩::.inl ⟨bp,101,12,idx 0 (nL p (.slice Ar p.regs.length cr) lb lo mi)⟩::.inl ⟨bn,24,6,idx 0 (cO t (.slice A t.kids.length c))⟩::EB xb mb ((t.kids.take q.1).foldl (fun s k=>nC N (k.kids.drop 1) p (B (cJ k 0) p dd (iX (JU t k each) k.at' 36 s))) s) q.2.2) (0,μ,fs) ⟨aN _,MLe.refl _,v⟩ (fun a w hs=>hs.sel PU (gB _)) ?_;rintro⟨i,μ0,fs0⟩ ⟨hi,hle,v⟩;dsimp only at hi hle v⊢;by_cases hlt:i<t.kids.length
 ·obtain⟨k,ag⟩:∃k,t.kids[i]? =some k:=⟨_,aA hlt⟩;obtain⟨ad,x,rfl,bm,bj,ba⟩:=bb i k ag;have bk:=bm.mono hle;have aj:=aB ag;have ae:=hq.kid aj;have ap:=hsub k aj;have bi:=PZ ap;have hz:=kK ag;have au:=ae.kid (eQ (t:=k) (i:=0) (by omega));obtain⟨bt,bs⟩:=bh _ au (by omega);have ar:∀y∈k.kids.drop 1,dJ qE y∧y.size≤szs (k.kids.drop 1):=fun y hy=>⟨ae.kid (cU hy),T.eL (List.mem_map.2 ⟨y,hy,rfl⟩)⟩;have bu:=fun y hy=>hN y (ar y hy).1 (by have:=(ar y hy).2;omega);have bq:Gr FF (2*szs (t.kids.take i)) s ((t.kids.take i).foldl (fun s k=>nC N (k.kids.drop 1) p (B (cJ k 0) p dd (iX (JU t k each) k.at' 36 s))) s):=by
   have h9:=pF (F:=FF) (g:=(fun s k=>nC N (k.kids.drop 1) p (B (cJ k 0) p dd (iX (JU t k each) k.at' 36 s)))) (c:=fun k=>2*T.size k) (t.kids.take i) s (fun k hk s=>by
    have ao:=bE hk;have ae:=hq.kid ao;have ap:=hsub k ao;have bi:=PZ ap;have b0:k.size≤szs t.kids:=T.eL (List.mem_map.2 ⟨k,ao,rfl⟩);have au:=ae.kid (eQ (t:=k) (i:=0) (by omega));exact((mC _ _ _ _).trans ((bh _ au (by omega)).2 _ _ _) (aC _)).trans (AD _ (fun x hx=>(hN x (ae.kid (cU hx)) (by
     have:x.size≤szs (k.kids.drop 1):=T.eL (List.mem_map.2 ⟨x,hx,rfl⟩);omega)).2) _ _) (by omega))
   rwa[rB]at h9
  have aw:=SB.gr (n:=szs (t.kids.take i)) (m:=k.size) (hS.mono (by omega)) bq;have o:(fun s k=>nC N (k.kids.drop 1) p (B (cJ k 0) p dd (iX (JU t k each) k.at' 36 s))) ((t.kids.take i).foldl (fun s k=>nC N (k.kids.drop 1) p (B (cJ k 0) p dd (iX (JU t k each) k.at' 36 s))) s) k=((t.kids.take (i+1)).foldl (fun s k=>nC N (k.kids.drop 1) p (B (cJ k 0) p dd (iX (JU t k each) k.at' 36 s))) s):=(uI (fun s k=>nC N (k.kids.drop 1) p (B (cJ k 0) p dd (iX (JU t k each) k.at' 36 s))) t.kids s ag).symm;generalize b1:((t.kids.take i).foldl (fun s k=>nC N (k.kids.drop 1) p (B (cJ k 0) p dd (iX (JU t k each) k.at' 36 s))) s)=si at v aw o⊢;dsimp only at o;have ai:=(aw.mono (m:=(cJ k 0).size+szs (k.kids.drop 1)) (by omega)).bad (JU t k each) k.at' 36;have av:=SB.gr ai (bs p dd _);obtain⟨A2,c2,rfl,br,aq⟩:=ba.form;obtain⟨ad2,x2,rfl,f,bw,j⟩:=aq 0 _ (iV (by omega));have f:=f.mono hle;have j:=j.mono hle;have l:=(ba.mono hle).DA (by omega);have z:=a6.mono hle;have ab:=bc.mono hle;have aa:=hm.mono hle;have b3:((k.kids.length:Int)=1)=(k.kids.length=1):=propext (by omega);try repeat' (first|refine KO ?_|(refine KV (b:=by first|exact U1 i|exact U4 bk) (c:=?_))|refine KZ ?_|refine NB fun b=>?_)
  refine aZ 24 _ (by kernel_rfl) rfl (aD (aD (aD (aD aT)))) ?_;all_goals(refine DD 0 ?_;refine DD 1 ?_;refine D1 2 ?_;refine DD 3 ?_;refine D1 4 ?_;refine D1 5 ?_;refine DD 6 ?_)
  all_goals(try(refine D7 7 ?_;(repeat' (refine KB ?_ ?_<;>intro hp))))
  all_goals(refine DD 7 ?_;refine DD 8 ?_;refine DD 9 ?_;refine DD 10 ?_)
  all_goals(try(refine D7 11 ?_;(repeat' (first|refine KO ?_|(refine KB ?_ ?_<;>intro hp)))))
  all_goals(refine D1 11 ?_;(first|refine D1 12 ?_|refine DD 12 ?_);refine D1 13 ?_;refine DD 14 ?_)
  all_goals(try(refine D7 15 ?_;(repeat' (refine KB ?_ ?_<;>intro hp))))
  all_goals(refine D1 15 ?_;(first|refine D1 16 ?_|refine DD 16 ?_);(first|refine D1 17 ?_|(refine D2 17 rfl (by exact U1 0) ?_));(first|refine D1 18 ?_|refine DD 18 ?_);(first|refine D1 19 ?_|(refine D2 19 rfl (by exact U4 f) ?_));refine D1 20 ?_;refine DD 21 ?_;refine DD 22 ?_)
  all_goals(refine D3 23 ?_;refine D5 ?_;refine CF 106 ?_;refine jP 4 rfl rfl rfl EN rfl v (OU xb mb k _ bj _ (JU t k each) (by unfold JU;simp_all) _ _ _) ?_;intro v1 μ1 i1 e v;dsimp only[aU,aY];have f:=f.mono e;have j:=j.mono e;have l:=l.mono e;have z:=z.mono e;have ab:=ab.mono e;have aa:=aa.mono e;have hle:=hle.trans e;refine D9 ?_)
  all_goals refine D8 ?_
  all_goals try repeat' (refine KZ ?_)
  all_goals
   refine aZ 8 _ (by kernel_rfl) rfl (aD (aD (aD (aD aT)))) ?_;all_goals(refine DD 0 ?_;refine D1 1 ?_;refine DD 2 ?_;refine D2 3 rfl (by exact U1 0) ?_;refine D2 4 rfl (by exact U4 f) ?_;refine DD 5 ?_;refine DD 6 ?_)
   all_goals(refine D3 7 ?_;refine D5 ?_;refine CF 101 ?_;refine jP 4 rfl rfl rfl EN rfl v (bt xb mb _ _ _ p dd _ _ j z ab ak (hB.mono (by omega)) (ai.mono (by omega)) aa) ?_;intro v1 μ1 i1 e v;dsimp only[aU,aY];have l:=l.mono e;have z:=z.mono e;have aa:=aa.mono e;have hle:=hle.trans e;refine D9 ?_)
   all_goals refine D8 ?_
  all_goals try repeat' (refine KZ ?_)
  all_goals
   refine aZ 6 _ (by kernel_rfl) rfl (aD (aD (aD (aD aT)))) ?_;all_goals(refine DD 0 ?_;refine D1 1 ?_;refine DD 2 ?_;refine D2 3 rfl (by((with_reducible apply lL 1);(iterate 4 exact rfl);omega;omega)) ?_;refine DD 4 ?_)
   all_goals(refine D3 5 ?_;refine D5 ?_;refine CF 48 ?_;refine jP 4 rfl rfl rfl EN rfl v (lK N (k.kids.drop 1) _ _ p _ _ xb mb bu l z (fun y hy=>hB.mono (by have:=(ar y hy).2;omega)) av (by have:=iG (k.kids.drop 1);omega) aa) ?_;intro v1 μ1 i1 e v;dsimp only[aU,aY];have hle:=hle.trans e;refine D9 ?_)
   all_goals refine D8 ?_
  all_goals try repeat' (refine KZ ?_)
  all_goals rw[o]at v⊢
  all_goals exact cY (i+1,μ1,i1) ⟨by dsimp only;omega,hle,v⟩ (by dsimp only;omega) rfl PU (eB (.refl _) (eB (.refl _) (eB (.refl _) (bY _ (gB _)))))
 ·have bo:i=t.kids.length:=by omega
  subst bo;rw[aK (aC _)]at v⊢;try repeat' (refine KZ ?_)
  all_goals exact gY 3 fs0 (by exact .inr rfl) bf rfl rfl af v
end
section
open Go.RowKit Go.Vcg Ou
theorem TA(s:T)(r:List T):xQ (s::r)=if s.op=8∧s.kids.length=1∧(cJ s 0).op=31 then(if(cJ s 0).s=GZ then true else xQ r)else false:=rfl
theorem aAl:GZ=⟨#[117,115,101,32,115,116,114,105,99,116]⟩:=by decide+kernel
theorem aAt(t:T):pD t=(decide (t.op=5)&& !(t.kids.any fun k=>decide (k.op≠34))):=by
 unfold pD;congr 1;induction t.kids with
 |nil=>rfl
 | cons k r ih=>
   rw[lR,kJ,ih];by_cases h:k.op=34<;>simp[h]
attribute [local irreducible] wdL anI nW mkD G GC GQ GA eV Calls IntKind.wrap Int.decLt Int.decLe
theorem aCj(t:T)(u:Value)(μ:Mem)(hk:KR μ t.kids u)(hl:t.kids.length≤100000):∃v,KR μ (OS t) v∧∀(w:World) (μ' :Mem),MOk μ' w→MLe μ μ' →bC 72 #[.agg (cO t u).toArray] w v:=by
 obtain⟨A,c,rfl,hcap,e⟩:=hk.form;unfold OS;by_cases h1:t.op=1
 ·rw[if_pos h1];refine⟨_,hk,fun w μ' hw hle=>?_⟩;refine aF Tryz.func72 rfl Tryz.ntmps72 (by simp) hw ?_;try repeat' (first|refine KZ ?_|refine NB fun b=>?_)
  all_goals exact aQ rfl rfl rfl
 rw[if_neg h1];by_cases h4:t.op=4∧1<t.kids.length∧(cJ t 1).op=6
 ·rw[if_pos h4];obtain⟨h4,h2,h6⟩:=h4;obtain⟨ad,x1,rfl,a,f,g⟩:=e 1 _ (iV (by omega));refine⟨x1,g,fun w μ' hw hle=>?_⟩;have a:=a.mono hle;refine aF Tryz.func72 rfl Tryz.ntmps72 (by simp) hw ?_;try repeat' (first|refine KO ?_|(refine KV (b:=by first|exact U1 1|exact U4 a) (c:=?_))|refine KZ ?_|refine NB fun b=>?_)
  all_goals exact aQ rfl rfl rfl
 rw[if_neg h4];refine⟨.slice none 0 0,KR.nil _ _ _,fun w μ' hw hle=>?_⟩;by_cases i:t.op=4
 rotate_left
 ·refine aF Tryz.func72 rfl Tryz.ntmps72 (by simp) hw ?_;try repeat' (first|refine KZ ?_|refine NB fun b=>?_)
  all_goals exact aQ rfl rfl rfl
 by_cases h2:1<t.kids.length
 rotate_left
 ·refine aF Tryz.func72 rfl Tryz.ntmps72 (by simp) hw ?_;try repeat' (first|refine KZ ?_|refine NB fun b=>?_)
  all_goals exact aQ rfl rfl rfl
 have h6:¬(cJ t 1).op=6:=fun h=>h4 ⟨i,h2,h⟩;obtain⟨ad,x1,rfl,a,f,g⟩:=e 1 _ (iV (by omega));have a:=a.mono hle;refine aF Tryz.func72 rfl Tryz.ntmps72 (by simp) hw ?_;try repeat' (first|refine KO ?_|(refine KV (b:=by first|exact U1 1|exact U4 a) (c:=?_))|refine KZ ?_|refine NB fun b=>?_)
 all_goals exact aQ rfl rfl rfl
theorem GL(t:T)(u:Value)(w:World)(μ:Mem)(hw:MOk μ w)(hk:KR μ t.kids u)(ai:t.size≤100000):bC 49 #[.agg (cO t u).toArray] w (.bool (qG t)):=by
 have aj:=aS t;have al:=iG t.kids;obtain⟨v,p,g⟩:=aCj t u μ hk (by omega);have af:(OS t).length≤100000:=by
  unfold OS;split
  ·omega
  split
  ·rename_i h;obtain⟨-,h2,-⟩:=h;have h9:=iG (cJ t 1).kids;have h8:=aS (cJ t 1);have h7:(cJ t 1).size≤szs t.kids:=T.eL (List.mem_map.2 ⟨_,eQ h2,rfl⟩);omega
  ·exact aN _
 have z:qG t=xQ (OS t):=rfl;rw[z];have ou:=hk.one;generalize OS t=l at p g af;obtain⟨A,c,rfl,hcap,r⟩:=p.form;generalize hR:xQ l=R;refine aF Tryz.func49 rfl Tryz.ntmps49 (by simp) hw ?_;try repeat' (first|refine KO ?_|refine K2 72 g ?_|refine KZ ?_|refine NB fun b=>?_)
 refine cD (ι:=Nat) (fun i=>i≤l.length∧xQ (l.drop i)=R) (fun i=>l.length-i) (fun _=>μ) (fun i=>[(8,.int .i64 (i:Int)),(7,.int .i64 (l.length:Int)),(6,.slice A l.length c)]) (fun _=>[]) 0 ⟨aN _,hR⟩ (fun a w hs=>J5 hs) ?_;rintro i ⟨hi,hJ⟩;by_cases hlt:i<l.length
 ·obtain⟨k,q⟩:∃k,l[i]? =some k:=⟨_,aA hlt⟩;obtain⟨ad,x,rfl,f,ak,aa⟩:=r i k q;have ab:l.drop i=k::l.drop (i+1):=by rw[eE hlt];congr 1;exact(List.getElem?_eq_some_iff.1 q).2
  rw[ab,TA]at hJ;obtain⟨A2,c2,rfl,ae,j⟩:=aa.form;by_cases h8:k.op=8
  rotate_left
  ·rw[if_neg (fun h=>h8 h.1)]at hJ;subst hJ;try repeat' (first|refine KO ?_|(refine KV (b:=by first|exact U1 i|exact U4 f) (c:=?_))|refine KZ ?_|refine NB fun b=>?_)
   all_goals exact aQ rfl rfl rfl
  by_cases o:k.kids.length=1
  rotate_left
  ·rw[if_neg (fun h=>o h.2.1)]at hJ;subst hJ;try repeat' (first|refine KO ?_|(refine KV (b:=by first|exact U1 i|exact U4 f) (c:=?_))|refine KZ ?_|refine NB fun b=>?_)
   all_goals exact aQ rfl rfl rfl
  obtain⟨ad2,x2,rfl,e,ag,ah⟩:=j 0 _ (iV (by omega));by_cases y:(cJ k 0).op=31
  rotate_left
  ·rw[if_neg (fun h=>y h.2.2)]at hJ;subst hJ;try repeat' (first|refine KO ?_|(refine KV (b:=by first|exact U1 i|exact U1 0|exact U4 f|exact U4 e) (c:=?_))|refine KZ ?_|refine NB fun b=>?_)
   all_goals exact aQ rfl rfl rfl
  rw[if_pos ⟨h8,o,y⟩,aAl]at hJ;by_cases hu:(cJ k 0).s=⟨#[117,115,101,32,115,116,114,105,99,116]⟩
  ·rw[if_pos hu]at hJ;subst hJ;try repeat' (first|refine KO ?_|(refine KV (b:=by first|exact U1 i|exact U1 0|exact U4 f|exact U4 e) (c:=?_))|refine KZ ?_|refine NB fun b=>?_)
   all_goals exact aQ rfl rfl rfl
  ·rw[if_neg hu]at hJ;try repeat' (first|refine KO ?_|(refine KV (b:=by first|exact U1 i|exact U1 0|exact U4 f|exact U4 e) (c:=?_))|refine KZ ?_|refine NB fun b=>?_)
   all_goals exact J2 (i+1) ⟨by omega,hJ⟩ (by omega)
 ·rw[cB (by omega)]at hJ;subst hJ;try repeat' (refine KZ ?_)
  all_goals exact aQ rfl rfl rfl
theorem PN(t:T)(u:Value)(w:World)(μ:Mem)(hw:MOk μ w)(ou:u.oneCell' =true):Calls Tryz.prog 162 ([Value.agg (cO t u).toArray]++[]).toArray w fun e w' =>e=.returned (.bool (decide (t.op≠34)))∧Below w.heap.size w w' :=by
 refine aF Tryz.func162 rfl Tryz.ntmps162 (by simp) hw ?_;try repeat' (first|refine KZ ?_|refine NB fun b=>?_)
 all_goals exact aQ rfl rfl rfl
theorem UY(t:T)(u:Value)(w:World)(μ:Mem)(hw:MOk μ w)(hk:KR μ t.kids u)(l:t.size≤100000):bC 138 #[.agg (cO t u).toArray] w (.bool (pD t)):=by
 have o:=aS t;have p:=iG t.kids;have h:=hk;obtain⟨A,c,rfl,hcap,j⟩:=hk.form;rw[aAt];have a:=fun w μc hw (hle:MLe μ μc)=>AW 162 [] (fun k=>decide (k.op≠34)) t.kids A t.kids.length c w μc hw (by kernel_rfl) (h.mono hle) rfl (fun k x w μ' _ e i g=>PN k x w μ' e g.one) (by omega);generalize (t.kids.any fun k=>decide (k.op≠34))=q at a⊢;refine aF Tryz.func138 rfl Tryz.ntmps138 (by simp) hw ?_;try repeat' (first|refine KZ ?_|((with_reducible apply C1);exact rfl;exact EN;exact fun w μc hw f=>a w μc hw f.le)|refine NB fun b=>?_|(refine KB ?_ ?_<;>intro r))
 all_goals refine aQ rfl rfl ?_
 all_goals simp_all
end
end Go.Proofs.YtlllalmkkaolfaaGreatDoor
