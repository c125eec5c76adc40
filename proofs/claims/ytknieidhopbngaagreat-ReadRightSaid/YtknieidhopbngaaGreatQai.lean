/- tree.statements. -/
import Derived.Test.YtknieidhopbngaaGreatQah
import Derived.Test.YtknieidhopbngaaGreatQag
set_option maxRecDepth 20000
set_option maxHeartbeats 2000000
namespace Go.Proofs.YtknieidhopbngaaGreat
section
open Go.RowKit Go.Vcg
theorem aAc(p:T→Bool)(l:List T):vY p 0 1 l=(1,l):=by
 cases l with
 |nil=>rfl
 |cons k r=>rw[vY,if_neg (by simp)]
theorem AD{p:T→Bool}{ps:List (T→Bool)}{l:List T}(h:oG (rK (p::ps)) l=true):∃k r,l=k::r∧p k=true∧oG (rK ps) r=true:=by
 unfold rK at h;rw[bE,oG]at h;cases l with
 |nil=>simp[vY]at h
 | cons k r=>
   cases hp:p k with
   | false=>
     have e:vY p 0 0 (k::r)=(0,k::r):=by rw[vY,if_neg (by simp[hp])]
     rw[e]at h;simp at h
   | true=>
     have e:vY p 0 0 (k::r)=(1,r):=by rw[vY,if_pos ⟨hp,.inl rfl⟩,aAc]
     rw[e,if_neg (by simp)]at h;exact⟨k,r,rfl,hp,h⟩
theorem ZV{l:List T}(h:oG (rK []) l=true):l=[]:=by
 unfold rK at h;rw[cN,oG,decide_eq_true_eq]at h;exact dC h
theorem aIn{a b c:T→Bool}{l:List T}(h:oG (rK [a,b,c]) l=true):∃x y z,l=[x,y,z]:=by
 obtain⟨x,r,rfl,_,h⟩:=AD h;obtain⟨y,r,rfl,_,h⟩:=AD h;obtain⟨z,r,rfl,_,h⟩:=AD h;rw[ZV h];exact⟨x,y,z,rfl⟩
attribute [local irreducible] oG aFo G GC GQ GA dV Calls IntKind.wrap Int.decLt Int.decLe
end
section
open Go.RowKit Go.Vcg
attribute [local irreducible] oG aFo aGn UX pP aFu G GC GQ GA dV Calls IntKind.wrap Int.decLt Int.decLe
end
section
open Go.RowKit Go.Vcg Go.Shelf
def EZ(s:ByteArray)(ws:List (List UInt8)):List Bool:=ws.map fun l=>decide (s=⟨l.toArray⟩)
def lX(s:ByteArray)(ws:List (List UInt8)):Bool:=(EZ s ws).any id
def yK:List (List UInt8):=[[100,101,108,101,116,101],[118,111,105,100],[116,121,112,101,111,102],[43],[45],[33],[126]]
def tH:List (List UInt8):=[[43,43],[45,45]]
def yJ:List (List UInt8):=[[124],[94],[38],[61,61],[33,61],[61,61,61],[33,61,61],[60],[62],[60,61],[62,61],[105,110,115,116,97,110,99,101,111,102],[105,110],[60,60],[62,62],[43],[45],[42],[47],[37]]
def wJ:List (List UInt8):=[[38,38],[124,124],[63,63]]
def tG:List (List UInt8):=[[61],[43,61],[45,61],[42,61],[47,61],[37,61],[38,61],[124,61],[94,61],[60,60,61],[62,62,61],[38,38,61],[124,124,61],[63,63,61]]
def nA(op:Int):Int:=
 if op=1∨op=22∨op=32∨op=43∨op=49∨op=51∨op=52∨op=54 then 1 else if op=2 then 2 else if op=30 then 9007199254740992 else if op=39 then 5 else 0
noncomputable def gD (t:T):Bool:=
 if t.op=15∨t.op=16 then decide (t.s=⟨#[]⟩)||iQ t.s
 else if t.op=23∨t.op=34∨t.op=51 then iQ t.s
 else if t.op=31 then true
 else if t.op=42 then lX t.s yK
 else if t.op=43 then lX t.s tH
 else if t.op=44 then lX t.s yJ
 else if t.op=45 then lX t.s wJ
 else if t.op=46 then lX t.s tG
 else decide (t.s=⟨#[]⟩)
attribute [local irreducible] iQ lX G GC GQ GA dV Calls IntKind.wrap Int.decLt Int.decLe
end
section
open Go.RowKit Go.Vcg
attribute [local irreducible] pP chB iX iD G GC GQ GA dV Calls IntKind.wrap Int.decLt Int.decLe
theorem zT(s:ByteArray)(ws:List (List UInt8))(A:Option Addr)(n c:Nat)(w:World)(μ:Mem)(hμ:MOk μ w)(u:Sl aFq 1 μ A n ws)(hn:n≤100000):
 aO 80 #[.string s,.slice A n c] w (.bool (lX s ws)):=by
 refine aQ Tryz.func80 rfl Tryz.ntmps80 (by simp) hμ ?_;have x:(EZ s ws).length=n:=by unfold EZ;rw[fA];exact u.1
 try repeat' (refine KZ ?_)
 refine dH (ι:=Nat) (fun k=>k≤n∧∀(j:Nat) (q:Bool),j<k→(EZ s ws)[j]? =some q→q=false) (fun k=>n-k) (fun _=>μ) (fun k=>[(5,.int .i64 k),(1,.slice A n c),(0,.string s)]) (fun _=>[]) 0 ⟨by omega,fun j _ h=>absurd h (by omega)⟩ (fun a w hs=>J6 hs) ?_;rintro k ⟨hk,hf⟩;by_cases r:k<n
 ·have d:(EZ s ws)[k]? =some ((EZ s ws)[k]'(by omega)):=aI (by omega);generalize (EZ s ws)[k]'(by omega)=q at d;have l:q=false→∀(j:Nat) (q:Bool),j<k+1→(EZ s ws)[j]? =some q→q=false:=fun h j p hj hp=>by
   rcases jV j k with h1|h1
   ·exact hf j p h1 hp
   ·obtain rfl:j=k:=by omega
    rw[d]at hp;cases hp;exact h
  obtain⟨ad,y,rfl,v,hm⟩:=u.get r;have g:q=decide (s=⟨y.toArray⟩):=by have h:=d;unfold EZ at h;rw[eL,v]at h;exact(jX h).symm
  cases o:q
  ·have hb:=l o;rw[o]at g;have z:¬(⟨y.toArray⟩:ByteArray)=s:=fun h=>of_decide_eq_false g.symm h.symm;try repeat' (first|refine KO ?_|(refine KV (b:=by first|exact U1 k|exact U3 (hm.at 0 rfl)) (c:=?_))|refine KZ ?_)
   all_goals exact J4 (k+1) ⟨by omega,hb⟩ (by omega)
  ·rw[o]at g d;have he:(⟨y.toArray⟩:ByteArray)=s:=(of_decide_eq_true g.symm).symm;have ht:lX s ws=true:=by unfold lX;rw[List.any_eq_true];exact⟨true,aZ d,rfl⟩
   rw[ht];try repeat' (first|refine KO ?_|(refine KV (b:=by first|exact U1 k|exact U3 (hm.at 0 rfl)) (c:=?_)))
   all_goals exact bL rfl rfl rfl
 ·have ht:lX s ws=false:=by unfold lX;rw[List.any_eq_false];intro q o;obtain⟨i,hi⟩:=List.mem_iff_getElem?.1 o;have h1:=hf i q (by have:=(List.getElem?_eq_some_iff.1 hi).1;omega) hi;simp[h1]
  rw[ht];try repeat' (refine KZ ?_)
  exact bL rfl rfl rfl
theorem DO(ks:List T)(A:Option Addr)(n c:Nat)(w:World)(μ:Mem)(hμ:MOk μ w)(hk:KR μ ks (.slice A n c))(v:ks.length=n)(hn:n≤100000)(aa:∀k∈ks,T.size k≤100000∧k.s.size≤65536):
 aO 30 #[.slice A n c] w (.bool (pP iX ks)):=by
 refine aQ Tryz.func30 rfl Tryz.ntmps30 (by simp) hμ ?_;have y:∀(i:Nat) (t:T),ks[i]? =some t→∃a u,A=some a∧iK μ (a.add (i*6)) (dG t u)∧u.oneCell' =true∧KR μ t.kids u:=by obtain⟨A',c',e,_,hg⟩:=hk.form;cases e;exact hg
 try repeat' (refine KZ ?_)
 refine dH (ι:=Nat) (fun i=>i≤n∧∀(j:Nat) (t:T),j<i→ks[j]? =some t→NZ j iX t) (fun i=>n-i) (fun _=>μ) (fun i=>[(3,.int .i64 i),(0,.slice A n c)]) (fun _=>[]) 0 ⟨by omega,fun j _ h=>absurd h (by omega)⟩ (fun a w hs=>J6 hs) ?_;rintro i ⟨hi,r⟩;by_cases ab:i<n
 ·have o:ks[i]? =some ks[i]:=aI (by omega);generalize ks[i]=t at o;obtain⟨ad,x,rfl,hm,ho,z⟩:=y i t o;have q:=aa t (aZ o);have hr:(i:Int).tmod 2=((i%2:Nat):Int):=rfl;have g:=fun w μc hw (hle:MLe μ μc)=>DS t x w μc hw (z.mono hle) q.1 q.2;by_cases d:NZ i iX t
  ·have l:∀(j:Nat) (t:T),j<i+1→ks[j]? =some t→NZ j iX t:=fun j t' hj ht=>by
    rcases jV j i with h|h
    ·exact r j t' h ht
    ·obtain rfl:j=i:=by omega
     rw[o]at ht;cases ht;exact d
   unfold NZ at d;by_cases h2:i%2=0
   ·rw[if_pos h2]at d;try repeat' (first|refine KO ?_|(refine KV (b:=by first|exact U1 i|exact U4 hm) (c:=?_))|refine KZ ?_)
    all_goals first
     |exact J2 (i+1) ⟨by omega,l⟩ (by omega)
     |(exfalso;omega)
   ·rw[if_neg h2]at d;rw[d]at g;try repeat' (first|refine KO ?_|((with_reducible apply C1);exact rfl;exact EN;exact fun w μc hw p=>g w μc hw p.le)|(refine KV (b:=by first|exact U1 i|exact U4 hm) (c:=?_))|refine KZ ?_)
    all_goals first
     |exact J2 (i+1) ⟨by omega,l⟩ (by omega)
     |(exfalso;omega)
  ·rw[KM fun h=>d (h.2 i t o)];unfold NZ at d;by_cases h2:i%2=0
   ·rw[if_pos h2]at d;try repeat' (first|refine KO ?_|(refine KV (b:=by first|exact U1 i|exact U4 hm) (c:=?_))|refine KZ ?_)
    all_goals first
     |exact bL rfl rfl rfl
     |(exfalso;omega)
   ·rw[if_neg h2]at d;rw[jR _|>.mp d]at g;try repeat' (first|refine KO ?_|((with_reducible apply C1);exact rfl;exact EN;exact fun w μc hw p=>g w μc hw p.le)|(refine KV (b:=by first|exact U1 i|exact U4 hm) (c:=?_))|refine KZ ?_)
    all_goals first
     |exact bL rfl rfl rfl
     |(exfalso;omega)
 ·obtain rfl:i=n:=by omega
  have hr:(i:Int).tmod 2=((i%2:Nat):Int):=rfl;have hg:pP iX ks=decide ((i:Int).tmod 2=1):=by
   by_cases h:i%2=1
   ·rw[KL ⟨by rw[v];exact h,fun j t hj=>r j t (by have:=(List.getElem?_eq_some_iff.1 hj).1;omega) hj⟩]
    symm
    rw[decide_eq_true_eq];omega
   ·rw[KM fun hf=>h (by rw[←v];exact hf.1)]
    symm
    rw[decide_eq_false_iff_not];omega
  rw[hg];try repeat' (refine KZ ?_)
  exact bL rfl rfl rfl
theorem zI:∀(n:Nat),n≤100000→∀(t:T) (u:Value) (w:World) (μ:Mem),MOk μ w→KR μ t.kids u→t.size≤n→Sh' t→
 aO 33 #[.agg (dG t u).toArray] w (.bool (chB t)):=by
 intro n;induction n with
 |zero=>intro _ t u w μ hμ hk hn;exact absurd hn (by rw[T.size_eq];omega)
 | succ n ih=>
   intro r t u w μ hμ hk hn i;have ho:=hk.one;have hlen:=tW t;obtain⟨A,c,rfl,v,l⟩:=hk.form;have a:=fun w μc hw (hle:MLe μ μc)=>tQ t _ w μc hw (hk.mono hle) (by omega) i.s;refine aQ Tryz.func33 rfl Tryz.ntmps33 (by simp) hμ ?_;cases hl:iD t
   ·rw[hl]at a;rw[TT (aCz hl)];try repeat' (first|refine KO ?_|refine K2 29 a ?_|refine KZ ?_|refine NB fun b=>?_)
    all_goals exact bL rfl rfl rfl
   ·rw [hl]at a;by_cases g:t.n=1
    ·rw[TS (.one hl g)];try repeat' (first|refine KO ?_|refine K2 29 a ?_|refine KZ ?_|refine NB fun b=>?_)
     all_goals exact bL rfl rfl rfl
    ·by_cases z:t.kids.length=0
     ·rw[TT (aFw g (by rw[iI];omega))];try repeat' (first|refine KO ?_|refine K2 29 a ?_|refine KZ ?_|refine NB fun b=>?_)
      all_goals exact bL rfl rfl rfl
     ·have d:t.kids[0]? =some t.kids[0]:=aI (by omega);generalize t.kids[0]=k at d;obtain⟨ad2,x2,rfl,o,q,j⟩:=l 0 k d;have x:=T.dX d;have y:chB t=chB k:=by
       by_cases hc:mR k
       ·rw[TS hc,TS ((aAg hl g d).2 hc)]
       ·rw[TT hc,TT fun h=>hc ((aAg hl g d).1 h)]
      have p:=fun w μc hw (hle:MLe μ μc)=>ih (by omega) k x2 w μc hw (j.mono hle) (by omega) (i.kid (aZ d));rw[y];try repeat' (first|refine KO ?_|refine K2 29 a ?_|refine K2 33 p ?_|(refine KV (b:=by first|exact U1 0|exact U4 o) (c:=?_))|refine KZ ?_|refine NB fun b=>?_)
      all_goals exact bL rfl rfl rfl
end
section
open Go.RowKit Go.Vcg
def aC3:List Int:=[1,2,8,16,32]
def iV(h:Int→Bool)(k:Nat):Nat:=((aC3.take k).filter h).length
theorem aAv(h:Int→Bool):iV h 0=0:=rfl
theorem yL{h:Int→Bool}{k:Nat}{m:Int}(hk:aC3[k]? =some m):iV h (k+1)=iV h k+ (if h m=true then 1 else 0):=by
 unfold iV;rw[kZ,hk,List.filter_append,aB];cases hm:h m<;>simp[List.filter_cons,hm]
theorem KG(h:Int→Bool)(k:Nat):iV h k≤5:=by
 unfold iV;have h1:=List.length_filter_le h (aC3.take k);have h2:(aC3.take k).length≤5:=by rw[bZ];exact Nat.min_le_right _ _
 omega
noncomputable def aHn (t:T):Bool:=
 if t.n<0∨255<t.n∨t.s≠⟨#[]⟩∧iQ t.s=false then false
 else if 1<iV (BT t) 5∨BT t 4=true∧BT t 50=true∨BT t 128=true∧BT t 2=false then false
 else if BT t 1=true then decide (t.s≠⟨#[]⟩)
 else decide (iV (BT t) 5=0)||decide (t.s=⟨#[]⟩)
attribute [local irreducible] iQ BT iV G GC GQ GA dV Calls IntKind.wrap Int.decLt Int.decLe
end
section
open Go.RowKit Go.Vcg
noncomputable def fnT (t:T):Bool:=
 if t.n<0∨255<t.n∨t.s≠⟨#[]⟩∧iQ t.s=false then false
 else(if 1<iV (fF t) 5∨fF t 4=true∧(fF t 2=true∨fF t 16=true∨fF t 32=true)∨fF t 128=true∧fF t 2=false then false else if fF t 1=true then decide (t.s≠⟨#[]⟩)else decide (iV (fF t) 5=0)||decide (t.s=⟨#[]⟩))
attribute [local irreducible] iQ fF iV G GC GQ GA dV Calls IntKind.wrap Int.decLt Int.decLe
theorem aCn(t:T)(u:Value)(w:World)(μ:Mem)(hμ:MOk μ w)(hk:KR μ t.kids u)(hs:t.size≤100000)(j:t.s.size≤65536):
 aO 48 #[.agg (dG t u).toArray] w (.bool (fnT t)):=by
 have ho:=hk.one;refine aQ Tryz.func48 rfl Tryz.ntmps48 (by simp) hμ ?_;have h:=fun(w:World) (μc:Mem) (hw:MOk μc w)=>xV t.s j w μc hw;have d:=fun(m:Int) (hm:m≠0) (w:World) (μc:Mem) (hw:MOk μc w) (hle:MLe μ μc)=>qP m hm t u w μc hw (hk.mono hle);by_cases h1:t.n<0∨255<t.n∨t.s≠⟨#[]⟩∧iQ t.s=false
 ·have hg:fnT t=false:=by unfold fnT;rw[if_pos h1]
  rw[hg];try repeat' (first|((with_reducible show GC _ _ (Code.seq (Code.region 3 _ _) _) _ _ _ _);(apply dE))|refine KO ?_|refine K2 78 (fun w μc hw c=>h w μc hw) ?_|refine KZ ?_|refine NB fun b=>?_|(refine KB ?_ ?_<;>intro hp))
  all_goals first|exact bL rfl rfl rfl|(exfalso;simp_all;try omega)
 ·try repeat' (first|((with_reducible show GC _ _ (Code.seq (Code.region 3 _ _) _) _ _ _ _);(apply dE))|refine KO ?_|refine K2 78 (fun w μc hw c=>h w μc hw) ?_|refine KZ ?_|refine NB fun b=>?_|(refine KB ?_ ?_<;>intro hp))
  rotate_left
  ·exfalso;simp_all
  rotate_left
  all_goals
   refine gcs ?_
   rename Nat=>ba
   have hg:fnT t=(if 1<iV (fF t) 5∨fF t 4=true∧(fF t 2=true∨fF t 16=true∨fF t 32=true)∨fF t 128=true∧fF t 2=false then false else if fF t 1=true then decide (t.s≠⟨#[]⟩)else decide (iV (fF t) 5=0)||decide (t.s=⟨#[]⟩)):=by unfold fnT;rw[if_neg h1]
   have o:=KG (fF t) 5;try repeat' (first|refine KZ ?_|refine NB fun b=>?_)
   refine dH (ι:=Nat) (fun i=>i≤5) (fun i=>5-i) (fun _=>μ) (fun i=>[(5,.int .i64 i),(4,.slice (some ⟨b,0,none⟩) 5 5),(3,.int .i64 (iV (fF t) i)),(1,.pointer (some ⟨ba,0,none⟩))]) (fun _=>[.inl ⟨b,3,5,idx 0 [.int .i64 1,.int .i64 2,.int .i64 8,.int .i64 16,.int .i64 32]⟩,.inl ⟨ba,25,6,idx 0 (dG t u)⟩]) 0 (by decide) (fun a w hs=>by rw[aAv];exact J5 hs) ?_;intro i hi;have l:=KG (fF t) i;rcases(by omega:i=5∨i=0∨i=1∨i=2∨i=3∨i=4)with rfl|rfl|rfl|rfl|rfl|rfl
   ·rw[hg];clear hg h1;try repeat' (first|refine KO ?_|((with_reducible apply F1 79);exact rfl;exact EN;exact fun w μc hw c=>d _ (by decide) w μc hw c.le)|refine KZ ?_|(refine KB ?_ ?_<;>intro hp))
    all_goals clear h d hk ho
    all_goals first|(refine bL rfl rfl ?_;simp_all;done)|(refine bL rfl rfl ?_;simp_all;omega)
   ·have hn:iV (fF t) 1=iV (fF t) 0+ (if fF t 1=true then 1 else 0):=yL (k:=0) rfl;cases g:fF t 1
    ·rw[g,if_neg (by simp),cM]at hn;try repeat' (refine KZ ?_)
     refine aW 6 _ (by kernel_rfl) rfl (aK (aK aU)) ?_;all_goals(refine DD 0 ?_;refine DD 1 ?_;refine DD 2 ?_;refine D2 3 rfl (by exact U1 0) ?_;refine DD 4 ?_;refine D3 5 ?_;refine D5 ?_;refine K2 79 (fun w μc hw c=>g▸d 1 (by decide) w μc hw c) ?_;refine D9 ?_;refine D8 ?_)
     try repeat' (refine KZ ?_)
     all_goals(rw[←hn];exact J2 1 (by decide) (by decide))
    ·rw[g,if_pos rfl]at hn;try repeat' (refine KZ ?_)
     refine aW 6 _ (by kernel_rfl) rfl (aK (aK aU)) ?_;all_goals(refine DD 0 ?_;refine DD 1 ?_;refine DD 2 ?_;refine D2 3 rfl (by exact U1 0) ?_;refine DD 4 ?_;refine D3 5 ?_;refine D5 ?_;refine K2 79 (fun w μc hw c=>g▸d 1 (by decide) w μc hw c) ?_;refine D9 ?_;refine D8 ?_)
     try repeat' (refine KZ ?_)
     all_goals(rw[show((iV (fF t) 0:Nat):Int)+1=((iV (fF t) 1:Nat):Int)from by omega];exact J2 1 (by decide) (by decide))
   ·have hn:iV (fF t) 2=iV (fF t) 1+ (if fF t 2=true then 1 else 0):=yL (k:=1) rfl;cases g:fF t 2
    ·rw[g,if_neg (by simp),cM]at hn;try repeat' (refine KZ ?_)
     refine aW 6 _ (by kernel_rfl) rfl (aK (aK aU)) ?_;all_goals(refine DD 0 ?_;refine DD 1 ?_;refine DD 2 ?_;refine D2 3 rfl (by exact U1 1) ?_;refine DD 4 ?_;refine D3 5 ?_;refine D5 ?_;refine K2 79 (fun w μc hw c=>g▸d 2 (by decide) w μc hw c) ?_;refine D9 ?_;refine D8 ?_)
     try repeat' (refine KZ ?_)
     all_goals(rw[←hn];exact J2 2 (by decide) (by decide))
    ·rw[g,if_pos rfl]at hn;try repeat' (refine KZ ?_)
     refine aW 6 _ (by kernel_rfl) rfl (aK (aK aU)) ?_;all_goals(refine DD 0 ?_;refine DD 1 ?_;refine DD 2 ?_;refine D2 3 rfl (by exact U1 1) ?_;refine DD 4 ?_;refine D3 5 ?_;refine D5 ?_;refine K2 79 (fun w μc hw c=>g▸d 2 (by decide) w μc hw c) ?_;refine D9 ?_;refine D8 ?_)
     try repeat' (refine KZ ?_)
     all_goals(rw[show((iV (fF t) 1:Nat):Int)+1=((iV (fF t) 2:Nat):Int)from by omega];exact J2 2 (by decide) (by decide))
   ·have hn:iV (fF t) 3=iV (fF t) 2+ (if fF t 8=true then 1 else 0):=yL (k:=2) rfl;cases g:fF t 8
    ·rw[g,if_neg (by simp),cM]at hn;try repeat' (refine KZ ?_)
     refine aW 6 _ (by kernel_rfl) rfl (aK (aK aU)) ?_;all_goals(refine DD 0 ?_;refine DD 1 ?_;refine DD 2 ?_;refine D2 3 rfl (by exact U1 2) ?_;refine DD 4 ?_;refine D3 5 ?_;refine D5 ?_;refine K2 79 (fun w μc hw c=>g▸d 8 (by decide) w μc hw c) ?_;refine D9 ?_;refine D8 ?_)
     try repeat' (refine KZ ?_)
     all_goals(rw[←hn];exact J2 3 (by decide) (by decide))
    ·rw[g,if_pos rfl]at hn;try repeat' (refine KZ ?_)
     refine aW 6 _ (by kernel_rfl) rfl (aK (aK aU)) ?_;all_goals(refine DD 0 ?_;refine DD 1 ?_;refine DD 2 ?_;refine D2 3 rfl (by exact U1 2) ?_;refine DD 4 ?_;refine D3 5 ?_;refine D5 ?_;refine K2 79 (fun w μc hw c=>g▸d 8 (by decide) w μc hw c) ?_;refine D9 ?_;refine D8 ?_)
     try repeat' (refine KZ ?_)
     all_goals(rw[show((iV (fF t) 2:Nat):Int)+1=((iV (fF t) 3:Nat):Int)from by omega];exact J2 3 (by decide) (by decide))
   ·have hn:iV (fF t) 4=iV (fF t) 3+ (if fF t 16=true then 1 else 0):=yL (k:=3) rfl;cases g:fF t 16
    ·rw[g,if_neg (by simp),cM]at hn;try repeat' (refine KZ ?_)
     refine aW 6 _ (by kernel_rfl) rfl (aK (aK aU)) ?_;all_goals(refine DD 0 ?_;refine DD 1 ?_;refine DD 2 ?_;refine D2 3 rfl (by exact U1 3) ?_;refine DD 4 ?_;refine D3 5 ?_;refine D5 ?_;refine K2 79 (fun w μc hw c=>g▸d 16 (by decide) w μc hw c) ?_;refine D9 ?_;refine D8 ?_)
     try repeat' (refine KZ ?_)
     all_goals(rw[←hn];exact J2 4 (by decide) (by decide))
    ·rw[g,if_pos rfl]at hn;try repeat' (refine KZ ?_)
     refine aW 6 _ (by kernel_rfl) rfl (aK (aK aU)) ?_;all_goals(refine DD 0 ?_;refine DD 1 ?_;refine DD 2 ?_;refine D2 3 rfl (by exact U1 3) ?_;refine DD 4 ?_;refine D3 5 ?_;refine D5 ?_;refine K2 79 (fun w μc hw c=>g▸d 16 (by decide) w μc hw c) ?_;refine D9 ?_;refine D8 ?_)
     try repeat' (refine KZ ?_)
     all_goals(rw[show((iV (fF t) 3:Nat):Int)+1=((iV (fF t) 4:Nat):Int)from by omega];exact J2 4 (by decide) (by decide))
   ·have hn:iV (fF t) 5=iV (fF t) 4+ (if fF t 32=true then 1 else 0):=yL (k:=4) rfl;cases g:fF t 32
    ·rw[g,if_neg (by simp),cM]at hn;try repeat' (refine KZ ?_)
     refine aW 6 _ (by kernel_rfl) rfl (aK (aK aU)) ?_;all_goals(refine DD 0 ?_;refine DD 1 ?_;refine DD 2 ?_;refine D2 3 rfl (by exact U1 4) ?_;refine DD 4 ?_;refine D3 5 ?_;refine D5 ?_;refine K2 79 (fun w μc hw c=>g▸d 32 (by decide) w μc hw c) ?_;refine D9 ?_;refine D8 ?_)
     try repeat' (refine KZ ?_)
     all_goals(rw[←hn];exact J2 5 (by decide) (by decide))
    ·rw[g,if_pos rfl]at hn;try repeat' (refine KZ ?_)
     refine aW 6 _ (by kernel_rfl) rfl (aK (aK aU)) ?_;all_goals(refine DD 0 ?_;refine DD 1 ?_;refine DD 2 ?_;refine D2 3 rfl (by exact U1 4) ?_;refine DD 4 ?_;refine D3 5 ?_;refine D5 ?_;refine K2 79 (fun w μc hw c=>g▸d 32 (by decide) w μc hw c) ?_;refine D9 ?_;refine D8 ?_)
     try repeat' (refine KZ ?_)
     all_goals(rw[show((iV (fF t) 4:Nat):Int)+1=((iV (fF t) 5:Nat):Int)from by omega];exact J2 5 (by decide) (by decide))
end
section
open Go.RowKit Go.Vcg
theorem aGr(s:ByteArray):lX s tH=(decide (s=⟨#[43,43]⟩)||decide (s=⟨#[45,45]⟩)):=by
 unfold lX EZ tH;simp only[bE,cN,iC,List.any_nil,gC,id_eq]
theorem aGq(s:ByteArray):lX s wJ=(decide (s=⟨#[38,38]⟩)||(decide (s=⟨#[124,124]⟩)||decide (s=⟨#[63,63]⟩))):=by
 unfold lX EZ wJ;simp only[bE,cN,iC,List.any_nil,gC,id_eq]
attribute [local irreducible] iQ lX G GC GQ GA dV Calls IntKind.wrap Int.decLt Int.decLe
theorem aEk(t:T)(u:Value)(w:World)(μ:Mem)(hμ:MOk μ w)(hk:KR μ t.kids u)(c:t.op=42):
 aO 49 #[.agg (dG t u).toArray] w (.bool (lX t.s yK)):=by
 have ho:=hk.one;refine aQ Tryz.func49 rfl Tryz.ntmps49 (by simp) hμ ?_;try repeat' (first|refine KO ?_|((with_reducible apply F1 80);exact rfl;exact EN;exact fun w μc hw a=>zT t.s yK _ _ _ w μc hw (IM a.hd rfl (by simp) (by repeat first|exact bH|refine bA rfl ?_)) (by decide))|refine KZ ?_|refine NB fun b=>?_)
 all_goals exact bL rfl rfl rfl
theorem aEi(t:T)(u:Value)(w:World)(μ:Mem)(hμ:MOk μ w)(hk:KR μ t.kids u)(c:t.op=44):
 aO 49 #[.agg (dG t u).toArray] w (.bool (lX t.s yJ)):=by
 have ho:=hk.one;refine aQ Tryz.func49 rfl Tryz.ntmps49 (by simp) hμ ?_;try repeat' (first|refine KO ?_|((with_reducible apply F1 80);exact rfl;exact EN;exact fun w μc hw a=>zT t.s yJ _ _ _ w μc hw (IM a.hd rfl (by simp) (by repeat first|exact bH|refine bA rfl ?_)) (by decide))|refine KZ ?_|refine NB fun b=>?_)
 all_goals exact bL rfl rfl rfl
theorem aEg(t:T)(u:Value)(w:World)(μ:Mem)(hμ:MOk μ w)(hk:KR μ t.kids u)(c:t.op=46):
 aO 49 #[.agg (dG t u).toArray] w (.bool (lX t.s tG)):=by
 have ho:=hk.one;refine aQ Tryz.func49 rfl Tryz.ntmps49 (by simp) hμ ?_;try repeat' (first|refine KO ?_|((with_reducible apply F1 80);exact rfl;exact EN;exact fun w μc hw a=>zT t.s tG _ _ _ w μc hw (IM a.hd rfl (by simp) (by repeat first|exact bH|refine bA rfl ?_)) (by decide))|refine KZ ?_|refine NB fun b=>?_)
 all_goals exact bL rfl rfl rfl
theorem aEj(t:T)(u:Value)(w:World)(μ:Mem)(hμ:MOk μ w)(hk:KR μ t.kids u)(a:t.op=43):
 aO 49 #[.agg (dG t u).toArray] w (.bool (lX t.s tH)):=by
 have ho:=hk.one;refine aQ Tryz.func49 rfl Tryz.ntmps49 (by simp) hμ ?_;rw[aGr];try repeat' (first|refine KZ ?_|refine NB fun b=>?_|(refine KB ?_ ?_<;>intro hp))
 all_goals(refine bL rfl rfl ?_;simp_all;done)
theorem aEh(t:T)(u:Value)(w:World)(μ:Mem)(hμ:MOk μ w)(hk:KR μ t.kids u)(a:t.op=45):
 aO 49 #[.agg (dG t u).toArray] w (.bool (lX t.s wJ)):=by
 have ho:=hk.one;refine aQ Tryz.func49 rfl Tryz.ntmps49 (by simp) hμ ?_;rw[aGq];try repeat' (first|refine KZ ?_|refine NB fun b=>?_|(refine KB ?_ ?_<;>intro hp))
 all_goals(refine bL rfl rfl ?_;simp_all;done)
theorem OS(t:T)(u:Value)(w:World)(μ:Mem)(hμ:MOk μ w)(hk:KR μ t.kids u)(i:t.s.size≤65536):
 aO 49 #[.agg (dG t u).toArray] w (.bool (gD t)):=by
 by_cases h:t.op=42
 ·simpa[gD,h]using aEk t u w μ hμ hk h
 by_cases g:t.op=43
 ·simpa[gD,g]using aEj t u w μ hμ hk g
 by_cases d:t.op=44
 ·simpa[gD,d]using aEi t u w μ hμ hk d
 by_cases c:t.op=45
 ·simpa[gD,c]using aEh t u w μ hμ hk c
 by_cases a:t.op=46
 ·simpa[gD,a]using aEg t u w μ hμ hk a
 have ho:=hk.one;refine aQ Tryz.func49 rfl Tryz.ntmps49 (by simp) hμ ?_;try repeat' (first|refine KO ?_|refine K2 78 (fun w μc hw j=>xV t.s i w μc hw) ?_|refine KZ ?_|refine NB fun b=>?_|(refine KB ?_ ?_<;>intro hp))
 all_goals(refine bL rfl rfl ?_;simp_all[gD])
end
section
open Go.RowKit Go.Vcg
def rY(t:T):Bool:=decide (t.op=62)||(decide (t.op=39)&&decide (t.n≠3)&&decide (t.n≠4))
def GM(t:T):Bool:=decide (t.at' <0)||(decide (t.m≠0)&&(decide (t.m≠1)|| !rY t))
attribute [local irreducible] aHn gD nA G GC GQ GA dV Calls IntKind.wrap Int.decLt Int.decLe
end
section
open Go.RowKit Go.Vcg
noncomputable def eF (t:T):Bool:=
 if GM t=true then false else if t.op=4 then fnT t else decide (0≤t.n)&&decide (t.n≤nA t.op)&&gD t
attribute [local irreducible] fnT gD nA G GC GQ GA dV Calls IntKind.wrap Int.decLt Int.decLe
theorem IX(t:T)(u:Value)(w:World)(μ:Mem)(hμ:MOk μ w)(hk:KR μ t.kids u)(hs:t.size≤100000)(j:t.s.size≤65536):
 aO 28 #[.agg (dG t u).toArray] w (.bool (eF t)):=by
 have ho:=hk.one;refine aQ Tryz.func28 rfl Tryz.ntmps28 (by simp) hμ ?_;have c:GM t=(decide (t.at' <0)||(decide (t.m≠0)&&(decide (t.m≠1)|| !rY t))):=rfl;try repeat' (first|((with_reducible show GC _ _ (Code.seq (Code.region 1 _ _) _) _ _ _ _);(apply dE))|refine KZ ?_|refine NB fun b=>?_)
 refine gcs (fK (ι:=Unit) (fun _=>True) (fun _=>μ) (fun _=>[(3,.bool (rY t)),(1,.pointer (some ⟨b,0,none⟩))]) (fun _=>[.inl ⟨b,25,6,idx 0 (dG t u)⟩]) ?_ ?_)
 ·by_cases d:t.op=62
  ·have hc:rY t=true:=by unfold rY;rw[decide_eq_true d,Bool.true_or]
   rw[hc];try repeat' (refine KZ ?_)
   all_goals first|skip
   all_goals try rw[decide_eq_true d]
   all_goals exact J1 () trivial
  ·by_cases g:t.op=39∧t.n≠3∧t.n≠4
   ·have hc:rY t=true:=by unfold rY;rw[decide_eq_true g.1,decide_eq_true g.2.1,decide_eq_true g.2.2];simp
    rw[hc];try repeat' (refine KZ ?_)
    all_goals exact J1 () trivial
   ·have hc:rY t=false:=by unfold rY;rw[decide_eq_false d,Bool.false_or,Bool.eq_false_iff];intro h;simp only[aM,decide_eq_true_eq]at h;exact g ⟨h.1.1,h.1.2,h.2⟩
    rw[hc];try repeat' (first|refine KZ ?_|(refine KB ?_ ?_<;>intro hp))
    all_goals first|skip
    all_goals try rw[decide_eq_false d]
    all_goals exact J1 () trivial
 ·intro _ _;generalize rY t=m at c;cases hb:GM t
  ·rw [hb]at c;by_cases h4:t.op=4
   ·have hg:eF t=fnT t:=by unfold eF;rw[if_neg (by simp[hb]),if_pos h4]
    rw[hg];clear hg;cases m;all_goals
     simp at c;try repeat' (first|refine KO ?_|refine K2 48 (fun w μc hw i=>aCn t u w μc hw (hk.mono i) hs j) ?_|refine KZ ?_|(refine KB ?_ ?_<;>intro hp))
     all_goals exact bL rfl rfl rfl
   ·have hg:eF t=(decide (0≤t.n)&&decide (t.n≤nA t.op)&&gD t):=by unfold eF;rw[if_neg (by simp[hb]),if_neg h4]
    rw[hg];clear hg;cases m;all_goals
     simp at c;try repeat' (first|((with_reducible show GC _ _ (Code.seq (Code.region 4 _ _) _) _ _ _ _);(apply dE))|refine KZ ?_|(refine KB ?_ ?_<;>intro hp))
     all_goals first|skip
    all_goals
     refine gcs ?_;try repeat' (first|((with_reducible show GC _ _ (Code.seq (Code.seq (Code.region 5 _ _) _) _) _ _ _ _);(apply dE))|refine KZ ?_)
     refine gcs (fK (ι:=Unit) (fun _=>True) (fun _=>μ) (fun _=>[(4,.int .i64 (nA t.op)),(1,.pointer (some ⟨b,0,none⟩))]) (fun _=>[.inl ⟨b,25,6,idx 0 (dG t u)⟩]) ?_ ?_)
     rotate_left
     ·intro _ _;try repeat' (first|refine KO ?_|refine K2 49 (fun w μc hw i=>OS t u w μc hw (hk.mono i) j) ?_|refine KZ ?_|(refine KB ?_ ?_<;>intro hp))
      all_goals(clear hk hμ ho;refine bL rfl rfl ?_;simp_all;try(intros;omega))
     by_cases o:t.op=1∨t.op=22∨t.op=32∨t.op=43∨t.op=49∨t.op=51∨t.op=52∨t.op=54
     ·have hm:nA t.op=1:=by unfold nA;(repeat rw[if_pos (by omega)])
      rw[hm];try repeat' (first|refine KZ ?_|(refine KB ?_ ?_<;>intro hp))
      all_goals exact J1 () trivial
     by_cases l:t.op=2
     ·have hm:nA t.op=2:=by unfold nA;(repeat first|rw[if_pos (by omega)]|rw[if_neg (by omega)])
      rw[hm];try repeat' (refine KZ ?_)
      all_goals exact J1 () trivial
     by_cases a:t.op=30
     ·have hm:nA t.op=9007199254740992:=by unfold nA;(repeat first|rw[if_pos (by omega)]|rw[if_neg (by omega)])
      rw[hm];try repeat' (refine KZ ?_)
      all_goals exact J1 () trivial
     by_cases k:t.op=39
     ·have hm:nA t.op=5:=by unfold nA;(repeat first|rw[if_pos (by omega)]|rw[if_neg (by omega)])
      rw[hm];try repeat' (refine KZ ?_)
      all_goals exact J1 () trivial
     have hm:nA t.op=0:=by unfold nA;(repeat rw[if_neg (by omega)])
     rw[hm];try repeat' (refine KZ ?_)
     all_goals exact J1 () trivial
  ·have hg:eF t=false:=by unfold eF;rw[if_pos hb]
   rw[hg];clear hg;rw[hb]at c;cases m;all_goals
    simp at c;try repeat' (first|refine KZ ?_|(refine KB ?_ ?_<;>intro hp))
    all_goals exact bL rfl rfl rfl
end
section
open Go.RowKit Go.Vcg
def xD(t:T):ByteArray:=if t.m=1 then⟨#[69]⟩else⟨#[107]⟩
def xI(t:T):ByteArray:=
 if t.n=0 then xD t++⟨#[69]⟩else if t.n=1 then xD t++⟨#[103]⟩else if t.n=2 then xD t++⟨#[115]⟩else if t.n=3 then⟨#[119]⟩else if t.n=4 then⟨#[69]⟩else if t.n=5 then xD t++⟨#[109]⟩else⟨#[33]⟩
def vL(t:T):ByteArray:=
 if t.op=21 then⟨#[69,75,42]⟩
 else if t.op=22 then(if t.n=1 then⟨#[83,42]⟩else⟨#[69,83,42]⟩)
 else if t.op=23 then⟨#[83]⟩
 else if t.op=37 then⟨#[65,42]⟩
 else if t.op=38 then⟨#[82,42]⟩
 else if t.op=39 then(xI t)
 else if t.op=43 then⟨#[116]⟩
 else if t.op=44∨t.op=45∨t.op=52 then⟨#[69,69]⟩
 else if t.op=46 then(if t.s=⟨#[61]⟩then⟨#[84,69]⟩else⟨#[116,69]⟩)
 else if t.op=47 then⟨#[69,69,69]⟩
 else if t.op=48 then⟨#[69,69,69,42]⟩
 else if t.op=49∨t.op=50 then⟨#[69,97,42]⟩
 else if t.op=51 then⟨#[69]⟩
 else if t.op=53 then⟨#[99]⟩
 else if t.op=54 then(if t.n=1 then⟨#[69]⟩else⟨#[69,63]⟩)
 else if t.op=60 then⟨#[72,42,90,63]⟩
 else if t.op=61 then⟨#[81,42,90,63]⟩
 else if t.op=62 then(if t.m=1 then⟨#[69,70]⟩else⟨#[107,70]⟩)
 else if t.op=63 then⟨#[84,69]⟩
 else if t.op=64 then⟨#[84]⟩
 else⟨#[33]⟩
def eQ(t:T):ByteArray:=
 if t.op=1∨t.op=6 then⟨#[83,42]⟩
 else if t.op=2 then⟨#[68,68,42]⟩
 else if t.op=3 then⟨#[84,69,63]⟩
 else if t.op=4 then(if(IntKind.i64.wrap (t.n.tdiv 128)).tmod 2=1 then⟨#[80,69]⟩else⟨#[80,66]⟩)
 else if t.op=5 then⟨#[70,42,90,63]⟩
 else if t.op=7∨t.op=15∨t.op=16∨t.op=30∨t.op=31∨t.op=32∨t.op=33∨t.op=34∨t.op=35∨t.op=40 then⟨#[]⟩
 else if t.op=8∨t.op=18∨t.op=41∨t.op=42 then⟨#[69]⟩
 else if t.op=9 then⟨#[69,83,83,63]⟩
 else if t.op=10 then⟨#[73,77,77,83]⟩
 else if t.op=11∨t.op=12 then⟨#[76,69,83]⟩
 else if t.op=13 then⟨#[69,83]⟩
 else if t.op=14 then⟨#[83,69]⟩
 else if t.op=17 then⟨#[69,63]⟩
 else if t.op=19 then⟨#[66,67,89]⟩
 else if t.op=20 then⟨#[71,66]⟩
 else vL t
theorem HU(t:T):(xD t).size=1:=by unfold xD;split<;>rfl
attribute [local irreducible] xD G GC GQ GA dV Calls IntKind.wrap Int.decLt Int.decLe
theorem OU(t:T)(u:Value)(w:World)(μ:Mem)(hμ:MOk μ w)(hk:KR μ t.kids u):
 aO 81 #[.agg (dG t u).toArray] w (.string (xI t)):=by
 have ho:=hk.one;refine aQ Tryz.func81 rfl Tryz.ntmps81 (by simp) hμ ?_;by_cases hm:t.m=1
 ·have hg:xD t=⟨#[69]⟩:=by unfold xD;rw[if_pos hm]
  unfold xI;rw[hg];try repeat' (first|refine KO ?_|(refine KV (b:=by((with_reducible apply iG);exact rfl;exact rfl;decide)) (c:=?_))|refine KZ ?_|refine NB fun b=>?_|(refine KB ?_ ?_<;>intro hp))
  all_goals(refine bL rfl rfl ?_;(repeat first|rw[if_pos (by omega)]|rw[if_neg (by omega)]);done)
 ·have hg:xD t=⟨#[107]⟩:=by unfold xD;rw[if_neg hm]
  unfold xI;rw[hg];try repeat' (first|refine KO ?_|(refine KV (b:=by((with_reducible apply iG);exact rfl;exact rfl;decide)) (c:=?_))|refine KZ ?_|refine NB fun b=>?_|(refine KB ?_ ?_<;>intro hp))
  all_goals(refine bL rfl rfl ?_;(repeat first|rw[if_pos (by omega)]|rw[if_neg (by omega)]);done)
theorem VJ(t:T)(u:Value)(w:World)(μ:Mem)(hμ:MOk μ w)(hk:KR μ t.kids u):
 aO 51 #[.agg (dG t u).toArray] w (.string (vL t)):=by
 have ho:=hk.one;refine aQ Tryz.func51 rfl Tryz.ntmps51 (by simp) hμ ?_;unfold vL;by_cases ah:t.op=21
 ·rw[if_pos ah];try repeat' (first|refine KZ ?_|refine NB fun b=>?_)
  all_goals exact bL rfl rfl rfl
 rw[if_neg ah];by_cases ag:t.op=22
 ·rw[if_pos ag];by_cases g:t.n=1
  ·rw[if_pos g];try repeat' (first|refine KZ ?_|refine NB fun b=>?_)
   all_goals exact bL rfl rfl rfl
  ·rw[if_neg g];try repeat' (first|refine KZ ?_|refine NB fun b=>?_)
   all_goals exact bL rfl rfl rfl
 rw[if_neg ag];by_cases af:t.op=23
 ·rw[if_pos af];try repeat' (first|refine KZ ?_|refine NB fun b=>?_)
  all_goals exact bL rfl rfl rfl
 rw[if_neg af];by_cases ae:t.op=37
 ·rw[if_pos ae];try repeat' (first|refine KZ ?_|refine NB fun b=>?_)
  all_goals exact bL rfl rfl rfl
 rw[if_neg ae];by_cases ad:t.op=38
 ·rw[if_pos ad];try repeat' (first|refine KZ ?_|refine NB fun b=>?_)
  all_goals exact bL rfl rfl rfl
 rw[if_neg ad];by_cases ab:t.op=39
 ·rw[if_pos ab];try repeat' (first|refine KO ?_|refine K2 81 (fun w μc hw ai=>OU t u w μc hw (hk.mono ai)) ?_|refine KZ ?_|refine NB fun b=>?_)
  all_goals exact bL rfl rfl rfl
 rw[if_neg ab];by_cases aa:t.op=43
 ·rw[if_pos aa];try repeat' (first|refine KZ ?_|refine NB fun b=>?_)
  all_goals exact bL rfl rfl rfl
 rw[if_neg aa];by_cases z:t.op=44∨t.op=45∨t.op=52
 ·rw[if_pos z];try repeat' (first|refine KZ ?_|refine NB fun b=>?_|(refine KB ?_ ?_<;>intro hp))
  all_goals exact bL rfl rfl rfl
 rw[if_neg z];by_cases y:t.op=46
 ·rw[if_pos y];by_cases d:t.s=⟨#[61]⟩
  ·rw[if_pos d];try repeat' (first|refine KZ ?_|refine NB fun b=>?_)
   all_goals exact bL rfl rfl rfl
  ·rw[if_neg d];try repeat' (first|refine KZ ?_|refine NB fun b=>?_)
   all_goals exact bL rfl rfl rfl
 rw[if_neg y];by_cases x:t.op=47
 ·rw[if_pos x];try repeat' (first|refine KZ ?_|refine NB fun b=>?_)
  all_goals exact bL rfl rfl rfl
 rw[if_neg x];by_cases v:t.op=48
 ·rw[if_pos v];try repeat' (first|refine KZ ?_|refine NB fun b=>?_)
  all_goals exact bL rfl rfl rfl
 rw[if_neg v];by_cases r:t.op=49∨t.op=50
 ·rw[if_pos r];try repeat' (first|refine KZ ?_|refine NB fun b=>?_|(refine KB ?_ ?_<;>intro hp))
  all_goals exact bL rfl rfl rfl
 rw[if_neg r];by_cases q:t.op=51
 ·rw[if_pos q];try repeat' (first|refine KZ ?_|refine NB fun b=>?_)
  all_goals exact bL rfl rfl rfl
 rw[if_neg q];by_cases p:t.op=53
 ·rw[if_pos p];try repeat' (first|refine KZ ?_|refine NB fun b=>?_)
  all_goals exact bL rfl rfl rfl
 rw[if_neg p];by_cases o:t.op=54
 ·rw[if_pos o];by_cases c:t.n=1
  ·rw[if_pos c];try repeat' (first|refine KZ ?_|refine NB fun b=>?_)
   all_goals exact bL rfl rfl rfl
  ·rw[if_neg c];try repeat' (first|refine KZ ?_|refine NB fun b=>?_)
   all_goals exact bL rfl rfl rfl
 rw[if_neg o];by_cases l:t.op=60
 ·rw[if_pos l];try repeat' (first|refine KZ ?_|refine NB fun b=>?_)
  all_goals exact bL rfl rfl rfl
 rw[if_neg l];by_cases k:t.op=61
 ·rw[if_pos k];try repeat' (first|refine KZ ?_|refine NB fun b=>?_)
  all_goals exact bL rfl rfl rfl
 rw[if_neg k];by_cases j:t.op=62
 ·rw[if_pos j];by_cases a:t.m=1
  ·rw[if_pos a];try repeat' (first|refine KZ ?_|refine NB fun b=>?_)
   all_goals exact bL rfl rfl rfl
  ·rw[if_neg a];try repeat' (first|refine KZ ?_|refine NB fun b=>?_)
   all_goals exact bL rfl rfl rfl
 rw[if_neg j];by_cases i:t.op=63
 ·rw[if_pos i];try repeat' (first|refine KZ ?_|refine NB fun b=>?_)
  all_goals exact bL rfl rfl rfl
 rw[if_neg i];by_cases h:t.op=64
 ·rw[if_pos h];try repeat' (first|refine KZ ?_|refine NB fun b=>?_)
  all_goals exact bL rfl rfl rfl
 rw[if_neg h];try repeat' (first|refine KZ ?_|refine NB fun b=>?_)
 all_goals exact bL rfl rfl rfl
theorem PL(t:T)(u:Value)(w:World)(μ:Mem)(hμ:MOk μ w)(hk:KR μ t.kids u):
 aO 31 #[.agg (dG t u).toArray] w (.string (eQ t)):=by
 have ho:=hk.one;refine aQ Tryz.func31 rfl Tryz.ntmps31 (by simp) hμ ?_;unfold eQ;by_cases h1:t.op=1∨t.op=6
 ·rw[if_pos h1];try repeat' (first|refine KZ ?_|refine NB fun b=>?_|(refine KB ?_ ?_<;>intro hp))
  all_goals exact bL rfl rfl rfl
 rw[if_neg h1];by_cases h2:t.op=2
 ·rw[if_pos h2];try repeat' (first|refine KZ ?_|refine NB fun b=>?_)
  all_goals exact bL rfl rfl rfl
 rw[if_neg h2];by_cases h3:t.op=3
 ·rw[if_pos h3];try repeat' (first|refine KZ ?_|refine NB fun b=>?_)
  all_goals exact bL rfl rfl rfl
 rw[if_neg h3];by_cases h4:t.op=4
 ·rw[if_pos h4];by_cases a:(IntKind.i64.wrap (t.n.tdiv 128)).tmod 2=1
  ·rw[if_pos a];try repeat' (first|refine KO ?_|(refine KV (b:=by((with_reducible apply RE);exact rfl;exact rfl;decide)) (c:=?_))|refine KZ ?_|refine NB fun b=>?_)
   all_goals exact bL rfl rfl rfl
  ·rw[if_neg a];try repeat' (first|refine KO ?_|(refine KV (b:=by((with_reducible apply RE);exact rfl;exact rfl;decide)) (c:=?_))|refine KZ ?_|refine NB fun b=>?_)
   all_goals exact bL rfl rfl rfl
 rw[if_neg h4];by_cases h5:t.op=5
 ·rw[if_pos h5];try repeat' (first|refine KZ ?_|refine NB fun b=>?_)
  all_goals exact bL rfl rfl rfl
 rw[if_neg h5];by_cases q:t.op=7∨t.op=15∨t.op=16∨t.op=30∨t.op=31∨t.op=32∨t.op=33∨t.op=34∨t.op=35∨t.op=40
 ·rw[if_pos q];try repeat' (first|refine KZ ?_|refine NB fun b=>?_|(refine KB ?_ ?_<;>intro hp))
  all_goals exact bL rfl rfl rfl
 rw[if_neg q];by_cases h8:t.op=8∨t.op=18∨t.op=41∨t.op=42
 ·rw[if_pos h8];try repeat' (first|refine KZ ?_|refine NB fun b=>?_|(refine KB ?_ ?_<;>intro hp))
  all_goals exact bL rfl rfl rfl
 rw[if_neg h8];by_cases p:t.op=9
 ·rw[if_pos p];try repeat' (first|refine KZ ?_|refine NB fun b=>?_)
  all_goals exact bL rfl rfl rfl
 rw[if_neg p];by_cases l:t.op=10
 ·rw[if_pos l];try repeat' (first|refine KZ ?_|refine NB fun b=>?_)
  all_goals exact bL rfl rfl rfl
 rw[if_neg l];by_cases k:t.op=11∨t.op=12
 ·rw[if_pos k];try repeat' (first|refine KZ ?_|refine NB fun b=>?_|(refine KB ?_ ?_<;>intro hp))
  all_goals exact bL rfl rfl rfl
 rw[if_neg k];by_cases j:t.op=13
 ·rw[if_pos j];try repeat' (first|refine KZ ?_|refine NB fun b=>?_)
  all_goals exact bL rfl rfl rfl
 rw[if_neg j];by_cases i:t.op=14
 ·rw[if_pos i];try repeat' (first|refine KZ ?_|refine NB fun b=>?_)
  all_goals exact bL rfl rfl rfl
 rw[if_neg i];by_cases h:t.op=17
 ·rw[if_pos h];try repeat' (first|refine KZ ?_|refine NB fun b=>?_)
  all_goals exact bL rfl rfl rfl
 rw[if_neg h];by_cases g:t.op=19
 ·rw[if_pos g];try repeat' (first|refine KZ ?_|refine NB fun b=>?_)
  all_goals exact bL rfl rfl rfl
 rw[if_neg g];by_cases d:t.op=20
 ·rw[if_pos d];try repeat' (first|refine KZ ?_|refine NB fun b=>?_)
  all_goals exact bL rfl rfl rfl
 rw[if_neg d];try repeat' (first|refine KO ?_|refine K2 51 (fun w μc hw o=>VJ t u w μc hw (hk.mono o)) ?_|refine KZ ?_|refine NB fun b=>?_)
 all_goals exact bL rfl rfl rfl
end
section
open Go.RowKit Go.Vcg
def OkF(t:T):Prop:=t.op=4→0≤t.n∧t.n≤255
attribute [local irreducible] vG iX gV mO iD sE BR BL fF
theorem aFc(t:T):isT 83 t=(vG t):=by
 unfold isT
 (repeat rw[if_pos (by decide)])
theorem EI(t:T):isT 69 t=(iX t):=by
 unfold isT
 (repeat first|rw[if_pos (by decide)]|rw[if_neg (by decide)])
theorem JL(t:T):isT 84 t=(gV t):=by
 unfold isT
 (repeat first|rw[if_pos (by decide)]|rw[if_neg (by decide)])
theorem aG8(t:T):isT 116 t=(mO t):=by
 unfold isT
 (repeat first|rw[if_pos (by decide)]|rw[if_neg (by decide)])
theorem aH4(t:T):isT 99 t=(iD t):=by
 unfold isT
 (repeat first|rw[if_pos (by decide)]|rw[if_neg (by decide)])
theorem aFd(t:T):isT 73 t=(decide (t.op=2)||decide (t.op=8)||decide (t.op=7)):=by
 unfold isT
 (repeat first|rw[if_pos (by decide)]|rw[if_neg (by decide)])
theorem aG1(t:T):isT 77 t=(iX t||decide (t.op=7)):=by
 unfold isT
 (repeat first|rw[if_pos (by decide)]|rw[if_neg (by decide)])
theorem aG2(t:T):isT 76 t=(gV t||yX t):=by
 unfold isT
 (repeat first|rw[if_pos (by decide)]|rw[if_neg (by decide)])
theorem aGz(t:T):isT 89 t=(decide (t.op=6)||decide (t.op=7)):=by
 unfold isT
 (repeat first|rw[if_pos (by decide)]|rw[if_neg (by decide)])
theorem aG6(t:T):isT 67 t=(decide (t.op=20)||decide (t.op=7)):=by
 unfold isT
 (repeat first|rw[if_pos (by decide)]|rw[if_neg (by decide)])
theorem aG4(t:T):isT 71 t=(gV t||decide (t.op=7)):=by
 unfold isT
 (repeat first|rw[if_pos (by decide)]|rw[if_neg (by decide)])
theorem aB7(t:T):isT 65 t=(iX t||decide (t.op=40)||decide (t.op=41)):=by
 unfold isT
 (repeat first|rw[if_pos (by decide)]|rw[if_neg (by decide)])
theorem aGy(t:T):isT 97 t=(iX t||decide (t.op=41)):=by
 unfold isT
 (repeat first|rw[if_pos (by decide)]|rw[if_neg (by decide)])
theorem ZA(t:T):isT 70 t=(gV t||decide (t.op=63)):=by
 unfold isT
 (repeat rw[if_neg (by decide)])
 unfold mX
 (repeat rw[if_pos (by decide)])
theorem aB6(t:T):isT 72 t=(gV t||decide (t.op=63)||decide (t.op=40)):=by
 unfold isT
 (repeat rw[if_neg (by decide)])
 unfold mX
 (repeat first|rw[if_pos (by decide)]|rw[if_neg (by decide)])
theorem ZB(t:T):isT 107 t=(decide (t.op=31)||decide (t.op=30)):=by
 unfold isT
 (repeat rw[if_neg (by decide)])
 unfold mX
 (repeat first|rw[if_pos (by decide)]|rw[if_neg (by decide)])
theorem aDq(t:T):isT 119 t=(sE t):=by
 unfold isT
 (repeat rw[if_neg (by decide)])
 unfold mX
 (repeat first|rw[if_pos (by decide)]|rw[if_neg (by decide)])
theorem aHb(t:T):isT 103 t=(fF t 16&&BR t 0):=by
 unfold isT
 (repeat rw[if_neg (by decide)])
 unfold mX
 (repeat first|rw[if_pos (by decide)]|rw[if_neg (by decide)])
theorem aG9(t:T):isT 115 t=(fF t 32&&BL t):=by
 unfold isT
 (repeat rw[if_neg (by decide)])
 unfold mX
 (repeat first|rw[if_pos (by decide)]|rw[if_neg (by decide)])
theorem aHa(t:T):isT 109 t=(fF t 8):=by
 unfold isT
 (repeat rw[if_neg (by decide)])
 unfold mX
 (repeat first|rw[if_pos (by decide)]|rw[if_neg (by decide)])
theorem aG5(t:T):isT 68 t=decide (t.op=3):=by
 unfold isT
 (repeat rw[if_neg (by decide)])
 unfold mX
 (repeat rw[if_neg (by decide)])
 rfl
theorem aH5(t:T):isT 80 t=decide (t.op=5):=by
 unfold isT
 (repeat rw[if_neg (by decide)])
 unfold mX
 (repeat rw[if_neg (by decide)])
 rfl
theorem aG7(t:T):isT 66 t=decide (t.op=6):=by
 unfold isT
 (repeat rw[if_neg (by decide)])
 unfold mX
 (repeat rw[if_neg (by decide)])
 rfl
theorem aG3(t:T):isT 75 t=decide (t.op=22):=by
 unfold isT
 (repeat rw[if_neg (by decide)])
 unfold mX
 (repeat rw[if_neg (by decide)])
 rfl
theorem YZ(t:T):isT 82 t=decide (t.op=39):=by
 unfold isT
 (repeat rw[if_neg (by decide)])
 unfold mX
 (repeat rw[if_neg (by decide)])
 rfl
theorem aG0(t:T):isT 81 t=decide (t.op=62):=by
 unfold isT
 (repeat rw[if_neg (by decide)])
 unfold mX
 (repeat rw[if_neg (by decide)])
 rfl
theorem aFb(t:T):isT 90 t=decide (t.op=64):=by
 unfold isT
 (repeat rw[if_neg (by decide)])
 unfold mX
 (repeat rw[if_neg (by decide)])
 rfl
noncomputable def pH (t:T):Bool:=if t.op=36 then pP iX t.kids else decide (eQ t≠⟨#[33]⟩)&&gQ (bl (eQ t)) t.kids
noncomputable def pV (t:T):Bool:=(if t.op=19 then(match t.kids with|[_,y,z]=>decide (y.op≠7)||decide (z.op≠7)|_=>false)else true)&&(if t.op=53 then(match t.kids with|[k]=>chB k|_=>false)else true)
noncomputable def mI (t:T):Bool:=pH t&&pV t
theorem yD{t:T}(h1:t.op≠19)(h2:t.op≠53):pV t=true:=by unfold pV;rw[if_neg h1,if_neg h2];rfl
theorem vD{t:T}{s:ByteArray}(h1:t.op≠19)(h2:t.op≠53)(h3:t.op≠36)(hs:eQ t=s)(a:s≠⟨#[33]⟩):mI t=gQ (bl s) t.kids:=by
 unfold mI pH;rw[yD h1 h2,if_neg h3,hs,decide_eq_true a,eJ,eX]
attribute [local semireducible] vG iX gV mO iD sE BR BL fF
theorem PX{t:T}(h:eF t=true):OkF t:=fun h4=>by
 unfold eF at h;split at h
 ·cases h
 ·unfold fnT at h;split at h
  ·cases h
  ·omega
theorem ZX{t:T}(h:eF t=true)(h4:t.op≠4):0≤t.n∧t.n≤nA t.op:=by
 unfold eF at h;split at h
 ·cases h
 ·rw[aM,aM,decide_eq_true_eq,decide_eq_true_eq]at h;exact h.1
def pE(t:T)(i:Nat)(k:T)(spine:Bool):Bool:=decide (i=0)&&(decide (t.op=53)||spine&&(iD t&&iD k))
inductive RA:T→Bool→Prop
 |mk {t:T} {spine:Bool} (hf:eF t=true) (hl:¬(iD t=true∧t.n=1∧spine=false)) (hk:mI t=true) (hr:∀(i:Nat) (k:T),t.kids[i]? =some k→RA k (pE t i k spine)):RA t spine
noncomputable def raB (t:T) (spine:Bool):Bool:=dB (RA t spine)
theorem aDi{t:T}{s:Bool}(h:RA t s):raB t s=true:=by unfold raB;exact aCu h
theorem yP{t:T}{s:Bool}(h:¬RA t s):raB t s=false:=by unfold raB;exact aCv h
theorem sS{t:T}{s:Bool}(h:raB t s=true):RA t s:=by unfold raB at h;exact TQ h
theorem qO{t:T}{s:Bool}(h:raB t s=false):¬RA t s:=by unfold raB at h;exact aAf h
end
section
open Go.RowKit Go.Vcg
def AtS(src:ByteArray)(a:Int)(x:ByteArray):Prop:=∃p q,bl src=p++bl x++q∧a=(p.length:Int)
structure Pn (src:ByteArray) (t:T):Prop where
 hi:t.at' ≤src.size
 nm:t.op=34→AtS src t.at' t.s
 sh:t.op=39→t.n=3→∀k,t.kids.head? =some k→AtS src k.at' k.s
 sz:t.s.size≤4000
 o0:0≤t.op
 o1:t.op≤64
inductive Gt (src:ByteArray):T→Bool→Prop
 |mk {t:T} {sp:Bool} (hf:eF t=true) (hl:¬(iD t=true∧t.n=1∧sp=false)) (hk:mI t=true) (hp:Pn src t) (hr:∀(i:Nat) (k:T),t.kids[i]? =some k→Gt src k (pE t i k sp)):Gt src t sp
variable{src:ByteArray}
theorem Gt.ra{t:T}{sp:Bool}(h:Gt src t sp):RA t sp:=by
 induction h with
 |mk hf hl hk _ _ ih=>exact .mk hf hl hk ih
theorem Gt.pn{t:T}{sp:Bool}(h:Gt src t sp):Pn src t:=by cases h;assumption
theorem Gt.fl{t:T}{sp:Bool}(h:Gt src t sp):eF t=true:=by cases h;assumption
theorem Gt.kd{t:T}{sp:Bool}(h:Gt src t sp):mI t=true:=by cases h;assumption
theorem aHj{t:T}(h:eF t=true):0≤t.at' :=by
 unfold eF GM at h;by_cases g:t.at' <0
 ·simp[g]at h
 ·omega
theorem aIm{t:T}(h:eF t=true):0≤t.n∧t.n≤9007199254740992:=by
 by_cases h4:t.op=4
 ·have:=PX h h4;omega
 ·have h2:=ZX h h4;refine⟨h2.1,Int.le_trans h2.2 ?_⟩;unfold nA;split
  ·decide
  ·split
   ·decide
   ·split
    ·decide
    ·split<;>decide
theorem aFn{t:T}(h:eF t=true):t.m=0∨t.m=1:=by
 unfold eF GM at h;by_cases g:t.m=0
 ·exact .inl g
 ·by_cases g1:t.m=1
  ·exact .inr g1
  ·simp[g,g1]at h
theorem Gt.at'{t:T}{sp:Bool}(h:Gt src t sp):0≤t.at' ∧t.at' ≤src.size:=⟨aHj h.fl,h.pn.hi⟩
theorem Gt.sh{t:T}{sp:Bool}(h:Gt src t sp):Sh t:=by
 induction h with
 | mk hf hl hk hp _ ih=>
   have h1:=aIm hf;have h2:=aFn hf;have h3:=hp.o0;have h4:=hp.o1;refine .mk hp.sz ⟨by omega,by omega⟩ ⟨by omega,by omega⟩ ⟨by omega,by omega⟩ fun k hk=>?_;obtain⟨i,hi⟩:=List.mem_iff_getElem?.1 hk;exact ih i k hi
theorem Gt.up{t:T}{sp:Bool}(h:Gt src t sp):Gt src t true:=by
 induction h with
 | @mk t sp hf hl hk hp hr ih=>
   refine .mk hf (fun h=>by simp at h) hk hp fun i k hi=>?_;cases hb:pE t i k true with
   |true=>exact ih i k hi
   | false=>
     have:pE t i k sp=false:=by
      unfold pE at hb⊢;cases sp
      ·simp only[gP,gC,eJ]at hb⊢;revert hb;cases decide (i=0)<;>cases decide (t.op=53)<;>simp
      ·exact hb
     rw[←this];exact hr i k hi
theorem YV{t:T}(a:t.op≠53){i:Nat}{k:T}:pE t i k false=false:=by
 unfold pE;rw[decide_eq_false a];simp
theorem Gt.kid{t k:T}(h:Gt src t false)(a:t.op≠53)(hk:k∈t.kids):Gt src k false:=by
 cases h with
 | mk _ _ _ _ hr=>
   obtain⟨i,hi⟩:=List.mem_iff_getElem?.1 hk;have:=hr i k hi;rwa[YV a]at this
theorem Gt.of{t:T}(a:t.op≠53)(hf:eF t=true)(hl:iD t=true→t.n≠1)(hk:mI t=true)(hp:Pn src t)(hr:∀k∈t.kids,Gt src k false):Gt src t false:=
 .mk hf (fun h=>hl h.1 h.2.1) hk hp fun i k hi=>by rw[YV a];exact hr k (aZ hi)
theorem BE{o a n m:Int}{x:ByteArray}{ks:List T}(h4:o≠4)(ha:0≤a)(hn:0≤n∧n≤nA o)(hm:m=0∨m=1∧rY (T.mk o a n m x ks)=true)(hw:gD (T.mk o a n m x ks)=true):eF (T.mk o a n m x ks)=true:=by
 have hb:GM (T.mk o a n m x ks)=false:=by
  unfold GM;show(decide (a<0)||(decide (m≠0)&&(decide (m≠1)|| !rY (T.mk o a n m x ks))))=false
  rcases hm with h|⟨h,hc⟩
  ·subst h;simp;omega
  ·subst h;rw[hc];simp;omega
 unfold eF;rw[hb,if_neg (by simp),if_neg (show¬(T.mk o a n m x ks).op=4 from h4),hw,eX,aM,decide_eq_true_eq,decide_eq_true_eq];exact hn
theorem xJ{o a n m:Int}{x:ByteArray}{ks:List T}(ha:a≤src.size)(ho:0≤o∧o≤64)(b:x.size≤4000)(h1:o=34→AtS src a x)(h2:o=39→n=3→∀k,ks.head? =some k→AtS src k.at' k.s):Pn src (T.mk o a n m x ks):=
 ⟨ha,h1,h2,b,ho.1,ho.2⟩
abbrev Pl(src:ByteArray)(a:Int):Prop:=0≤a∧a≤src.size
abbrev Gc(src:ByteArray)(c:Int)(t:T):Prop:=Gt src t false∧isT c t=true
theorem gn{o a n m:Int}{ks:List T}(S:ByteArray)(ho:0≤o∧o≤64∧o≠4∧o≠19∧o≠53∧o≠36)(ha:Pl src a)(hn:0≤n∧n≤nA o)(hm:m=0∨m=1∧rY (T.mk o a n m empty ks)=true)(hw:gD (T.mk o a n m empty ks)=true)
 (d:eQ (T.mk o a n m empty ks)=S)(b:S≠⟨#[33]⟩)(hr:gQ (bl S) ks=true)(hl:n=1→¬(o=49∨o=51∨o=52))(h2:o=39→n=3→∀k,ks.head? =some k→AtS src k.at' k.s)(c:o≠34)(hk:∀k∈ks,Gt src k false):Gt src (T.mk o a n m empty ks) false:=by
 refine .of (t:=T.mk o a n m empty ks) ho.2.2.2.2.1 (BE ho.2.2.1 ha.1 hn hm hw) ?_ ?_ (xJ ha.2 ⟨ho.1,ho.2.1⟩ (by decide) (fun h=>absurd h c) h2) hk
 ·intro h g;have:=hl g;have i:(decide (o=49)||decide (o=51)||decide (o=52))=true:=h;simp only[aY,decide_eq_true_eq]at i;omega
 ·rw[vD (t:=T.mk o a n m empty ks) ho.2.2.2.1 ho.2.2.2.2.1 ho.2.2.2.2.2 d b];exact hr
theorem gs{o a n:Int}{x:ByteArray}{ks:List T}(S:ByteArray)(ho:0≤o∧o≤64∧o≠4∧o≠19∧o≠53∧o≠36)(c:o≠39)(ha:Pl src a)(hn:0≤n∧n≤nA o)(hw:gD (T.mk o a n 0 x ks)=true)(i:x.size≤4000)
 (j:eQ (T.mk o a n 0 x ks)=S)(b:S≠⟨#[33]⟩)(hr:gQ (bl S) ks=true)(hl:n=1→¬(o=49∨o=51∨o=52))(d:o=34→AtS src a x)(hk:∀k∈ks,Gt src k false):Gt src (T.mk o a n 0 x ks) false:=by
 refine .of (t:=T.mk o a n 0 x ks) ho.2.2.2.2.1 (BE ho.2.2.1 ha.1 hn (.inl rfl) hw) ?_ ?_ (xJ ha.2 ⟨ho.1,ho.2.1⟩ i d (fun h=>absurd h c)) hk
 ·intro h g;have:=hl g;have l:(decide (o=49)||decide (o=51)||decide (o=52))=true:=h;simp only[aY,decide_eq_true_eq]at l;omega
 ·rw[vD (t:=T.mk o a n 0 x ks) ho.2.2.2.1 ho.2.2.2.2.1 ho.2.2.2.2.2 j b];exact hr
theorem pD:gQ [] []=true:=by rw[sR];rfl
theorem nG{c:UInt8}{k:T}(h:isT (c.toNat:Int) k=true):gQ [c] [k]=true:=by rw[IR];simp only[h,if_true];exact pD
theorem lW{c d:UInt8}{rr:List UInt8}{k:T}{l:List T}(h1:d≠42)(h2:d≠63)(h:isT (c.toNat:Int) k=true)(hr:gQ (d::rr) l=true):gQ (c::d::rr) (k::l)=true:=by rw[IQ h1 h2];simp only[h,if_true];exact hr
theorem OJ{c:UInt8}{rr:List UInt8}{k:T}{l:List T}(h:isT (c.toNat:Int) k=true)(hr:gQ rr l=true):gQ (c::63::rr) (k::l)=true:=by rw[OK];simp only[h,if_true];exact hr
theorem DN{c:UInt8}{rr:List UInt8}(hr:gQ rr []=true):gQ (c::63::rr) []=true:=by rw[OK];exact hr
theorem NF{p:T→Bool}:∀{l m:List T},(∀k∈l,p k=true)→(∀z,m.head? =some z→p z=false)→(l++m).dropWhile p=m
 |[],[],_,_=>rfl
 |[],z::m,_,h=>by rw[jK,fZ,h z rfl];rfl
 | k::l,m,h,g=>by rw[kY,fZ,if_pos (h k aA)];exact NF (fun x a=>h x (aS a)) g
theorem rows{c:UInt8}{rr:List UInt8}{l m:List T}(h:∀k∈l,isT (c.toNat:Int) k=true)(g:∀z,m.head? =some z→isT (c.toNat:Int) z=false)(hr:gQ rr m=true):gQ (c::42::rr) (l++m)=true:=by rw[zS,NF h g];exact hr
theorem vC{c:UInt8}{l:List T}(h:∀k∈l,isT (c.toNat:Int) k=true):gQ [c,42] l=true:=by
 have:=rows (rr:=[]) (m:=[]) h (fun z a=>by cases a) pD;rwa[bP]at this
end
end Go.Proofs.YtknieidhopbngaaGreat
