/- The reference's one, template and chained. -/
import Derived.Test.YtlllalmkkaolfaaGreatDoorUal
set_option maxRecDepth 20000
set_option maxHeartbeats 2000000
namespace Go.Proofs.YtlllalmkkaolfaaGreatDoor
section
open Go.RowKit Go.Vcg
attribute [local irreducible] nR chB lS iC G GC GQ GA eV Calls IntKind.wrap Int.decLt Int.decLe
theorem HK(s:ByteArray)(ws:List (List UInt8))(A:Option Addr)(n c:Nat)(w:World)(μ:Mem)(hμ:MOk μ w)(o:Sl aCg 1 μ A n ws)(hn:n≤100000):
 bC 91 #[.string s,.slice A n c] w (.bool (pX s ws)):=by
 refine aF Tryz.func91 rfl Tryz.ntmps91 (by simp) hμ ?_;have t:(vK s ws).length=n:=by unfold vK;rw[aO];exact o.1
 try repeat' (refine KZ ?_)
 refine cD (ι:=Nat) (fun k=>k≤n∧∀(j:Nat) (q:Bool),j<k→(vK s ws)[j]? =some q→q=false) (fun k=>n-k) (fun _=>μ) (fun k=>[(5,.int .i64 k),(1,.slice A n c),(0,.string s)]) (fun _=>[]) 0 ⟨by omega,fun j _ h=>absurd h (by omega)⟩ (fun a w hs=>J6 hs) ?_;rintro k ⟨hk,hf⟩;by_cases hlt:k<n
 ·have e:(vK s ws)[k]? =some ((vK s ws)[k]'(by omega)):=aA (by omega);generalize (vK s ws)[k]'(by omega)=q at e;have g:q=false→∀(j:Nat) (q:Bool),j<k+1→(vK s ws)[j]? =some q→q=false:=fun h j p u l=>by
   rcases dL j k with h1|h1
   ·exact hf j p h1 l
   ·obtain rfl:j=k:=by omega
    rw[e]at l;cases l;exact h
  obtain⟨ad,y,rfl,r,hm⟩:=o.get hlt;have f:q=decide (s=⟨y.toArray⟩):=by have h:=e;unfold vK at h;rw[aX,r]at h;exact(eC h).symm
  cases hq:q
  ·have hb:=g hq;rw[hq]at f;have hne:¬(⟨y.toArray⟩:ByteArray)=s:=fun h=>of_decide_eq_false f.symm h.symm;try repeat' (first|refine KO ?_|(refine KV (b:=by first|exact U1 k|exact U3 (hm.at 0 rfl)) (c:=?_))|refine KZ ?_)
   all_goals exact J4 (k+1) ⟨by omega,hb⟩ (by omega)
  ·rw[hq]at f e;have he:(⟨y.toArray⟩:ByteArray)=s:=(of_decide_eq_true f.symm).symm;have ht:pX s ws=true:=by unfold pX;rw[List.any_eq_true];exact⟨true,aB e,rfl⟩
   rw[ht];try repeat' (first|refine KO ?_|(refine KV (b:=by first|exact U1 k|exact U3 (hm.at 0 rfl)) (c:=?_)))
   all_goals exact aQ rfl rfl rfl
 ·have ht:pX s ws=false:=by unfold pX;rw[List.any_eq_false];intro q hq;obtain⟨i,hi⟩:=List.mem_iff_getElem?.1 hq;have h1:=hf i q (by have:=(List.getElem?_eq_some_iff.1 hi).1;omega) hi;simp[h1]
  rw[ht];try repeat' (refine KZ ?_)
  exact aQ rfl rfl rfl
theorem ME(ks:List T)(A:Option Addr)(n c:Nat)(w:World)(μ:Mem)(hμ:MOk μ w)(hk:KR μ ks (.slice A n c))(v:ks.length=n)(hn:n≤100000)(aa:∀k∈ks,T.size k≤100000∧k.s.size≤65536):
 bC 44 #[.slice A n c] w (.bool (nR lS ks)):=by
 refine aF Tryz.func44 rfl Tryz.ntmps44 (by simp) hμ ?_;have y:∀(i:Nat) (t:T),ks[i]? =some t→∃a u,A=some a∧gF μ (a.add (i*6)) (cO t u)∧u.oneCell' =true∧KR μ t.kids u:=by obtain⟨A',c',e,_,hg⟩:=hk.form;cases e;exact hg
 try repeat' (refine KZ ?_)
 refine cD (ι:=Nat) (fun i=>i≤n∧∀(j:Nat) (t:T),j<i→ks[j]? =some t→EX j lS t) (fun i=>n-i) (fun _=>μ) (fun i=>[(3,.int .i64 i),(0,.slice A n c)]) (fun _=>[]) 0 ⟨by omega,fun j _ h=>absurd h (by omega)⟩ (fun a w hs=>J6 hs) ?_;rintro i ⟨hi,r⟩;by_cases hlt:i<n
 ·have o:ks[i]? =some ks[i]:=aA (by omega);generalize ks[i]=t at o;obtain⟨ad,x,rfl,hm,ho,z⟩:=y i t o;have q:=aa t (aB o);have hr:(i:Int).tmod 2=((i%2:Nat):Int):=rfl;have g:=fun w μc hw (hle:MLe μ μc)=>MF t x w μc hw (z.mono hle) q.1 q.2;by_cases f:EX i lS t
  ·have l:∀(j:Nat) (t:T),j<i+1→ks[j]? =some t→EX j lS t:=fun j t' hj ht=>by
    rcases dL j i with h|h
    ·exact r j t' h ht
    ·obtain rfl:j=i:=by omega
     rw[o]at ht;cases ht;exact f
   unfold EX at f;by_cases h2:i%2=0
   ·rw[if_pos h2]at f;try repeat' (first|refine KO ?_|(refine KV (b:=by first|exact U1 i|exact U4 hm) (c:=?_))|refine KZ ?_)
    all_goals first
     |exact J2 (i+1) ⟨by omega,l⟩ (by omega)
     |(exfalso;omega)
   ·rw[if_neg h2]at f;rw[f]at g;try repeat' (first|refine KO ?_|((with_reducible apply C1);exact rfl;exact EN;exact fun w μc hw p=>g w μc hw p.le)|(refine KV (b:=by first|exact U1 i|exact U4 hm) (c:=?_))|refine KZ ?_)
    all_goals first
     |exact J2 (i+1) ⟨by omega,l⟩ (by omega)
     |(exfalso;omega)
  ·rw[wR fun h=>f (h.2 i t o)];unfold EX at f;by_cases h2:i%2=0
   ·rw[if_pos h2]at f;try repeat' (first|refine KO ?_|(refine KV (b:=by first|exact U1 i|exact U4 hm) (c:=?_))|refine KZ ?_)
    all_goals first
     |exact aQ rfl rfl rfl
     |(exfalso;omega)
   ·rw[if_neg h2]at f;rw[Bool.not_eq_true _|>.mp f]at g;try repeat' (first|refine KO ?_|((with_reducible apply C1);exact rfl;exact EN;exact fun w μc hw p=>g w μc hw p.le)|(refine KV (b:=by first|exact U1 i|exact U4 hm) (c:=?_))|refine KZ ?_)
    all_goals first
     |exact aQ rfl rfl rfl
     |(exfalso;omega)
 ·obtain rfl:i=n:=by omega
  have hr:(i:Int).tmod 2=((i%2:Nat):Int):=rfl;have hg:nR lS ks=decide ((i:Int).tmod 2=1):=by
   by_cases h:i%2=1
   ·rw[EY ⟨by rw[v];exact h,fun j t hj=>r j t (by have:=(List.getElem?_eq_some_iff.1 hj).1;omega) hj⟩]
    symm
    rw[decide_eq_true_eq];omega
   ·rw[wR fun hf=>h (by rw[←v];exact hf.1)]
    symm
    rw[decide_eq_false_iff_not];omega
  rw[hg];try repeat' (refine KZ ?_)
  exact aQ rfl rfl rfl
theorem GO:∀(n:Nat),n≤100000→∀(t:T) (u:Value) (w:World) (μ:Mem),MOk μ w→KR μ t.kids u→t.size≤n→Sh' t→
 bC 47 #[.agg (cO t u).toArray] w (.bool (chB t)):=by
 intro n;induction n with
 |zero=>intro _ t u w μ hμ hk hn;exact absurd hn (by rw[T.size_eq];omega)
 | succ n ih=>
   intro q t u w μ hμ hk hn g;have ho:=hk.one;have hlen:=eT t;obtain⟨A,c,rfl,r,j⟩:=hk.form;have a:=fun w μc hw (hle:MLe μ μc)=>xV t _ w μc hw (hk.mono hle) (by omega) g.s;refine aF Tryz.func47 rfl Tryz.ntmps47 (by simp) hμ ?_;cases hl:iC t
   ·rw[hl]at a;rw[DE (KU hl)];try repeat' (first|refine KO ?_|refine K2 43 a ?_|refine KZ ?_|refine NB fun b=>?_)
    all_goals exact aQ rfl rfl rfl
   ·rw [hl]at a;by_cases f:t.n=1
    ·rw[SH (.one hl f)];try repeat' (first|refine KO ?_|refine K2 43 a ?_|refine KZ ?_|refine NB fun b=>?_)
     all_goals exact aQ rfl rfl rfl
    ·by_cases h0:t.kids.length=0
     ·rw[DE (aLr f (by rw[List.getElem?_eq_none_iff];omega))];try repeat' (first|refine KO ?_|refine K2 43 a ?_|refine KZ ?_|refine NB fun b=>?_)
      all_goals exact aQ rfl rfl rfl
     ·have e:t.kids[0]? =some t.kids[0]:=aA (by omega);generalize t.kids[0]=k at e;obtain⟨ad2,x2,rfl,l,p,i⟩:=j 0 k e;have v:=T.fY e;have x:chB t=chB k:=by
       by_cases hc:qJ k
       ·rw[SH hc,SH ((VC hl f e).2 hc)]
       ·rw[DE hc,DE fun h=>hc ((VC hl f e).1 h)]
      have o:=fun w μc hw (hle:MLe μ μc)=>ih (by omega) k x2 w μc hw (i.mono hle) (by omega) (g.kid (aB e));rw[x];try repeat' (first|refine KO ?_|refine K2 43 a ?_|refine K2 47 o ?_|(refine KV (b:=by first|exact U1 0|exact U4 l) (c:=?_))|refine KZ ?_|refine NB fun b=>?_)
      all_goals exact aQ rfl rfl rfl
end
section
open Go.RowKit Go.Vcg
def aLw:List Int:=[1,2,8,16,32]
def fR(h:Int→Bool)(k:Nat):Nat:=((aLw.take k).filter h).length
theorem aC5(h:Int→Bool):fR h 0=0:=rfl
theorem sQ{h:Int→Bool}{k:Nat}{m:Int}(hk:aLw[k]? =some m):fR h (k+1)=fR h k+ (if h m=true then 1 else 0):=by
 unfold fR;rw[cG,hk,List.filter_append,aI];cases hm:h m<;>simp[List.filter_cons,hm]
theorem ET(h:Int→Bool)(k:Nat):fR h k≤5:=by
 unfold fR;have h1:=List.length_filter_le h (aLw.take k);have h2:(aLw.take k).length≤5:=by rw[cM];exact nX _ _
 omega
noncomputable def AY (t:T):Bool:=
 if t.n<0∨255<t.n∨t.s≠⟨#[]⟩∧lI t.s=false then false
 else if 1<fR (gL t) 5∨gL t 4=true∧gL t 50=true∨gL t 128=true∧gL t 2=false then false
 else if gL t 1=true then decide (t.s≠⟨#[]⟩)
 else decide (fR (gL t) 5=0)||decide (t.s=⟨#[]⟩)
attribute [local irreducible] lI gL fR G GC GQ GA eV Calls IntKind.wrap Int.decLt Int.decLe
theorem aHg(t:T)(u:Value)(w:World)(μ:Mem)(hμ:MOk μ w)(hk:KR μ t.kids u)(hs:t.size≤100000)(h:t.s.size≤65536):
 bC 115 #[.agg (cO t u).toArray] w (.bool (AY t)):=by
 have ho:=hk.one;refine aF Tryz.func115 rfl Tryz.ntmps115 (by simp) hμ ?_;have g:=fun(w:World) (μc:Mem) (hw:MOk μc w)=>HW t.s h w μc hw;have e:=fun(m:Int) (w:World) (μc:Mem) (hw:MOk μc w) (hle:MLe μ μc)=>qP m t u w μc hw (hk.mono hle) hs;by_cases h1:t.n<0∨255<t.n∨t.s≠⟨#[]⟩∧lI t.s=false
 ·have hg:AY t=false:=by unfold AY;rw[if_pos h1]
  rw[hg];try repeat' (first|((with_reducible show GC _ _ (Code.seq (Code.region 3 _ _) _) _ _ _ _);(apply dX))|refine KO ?_|refine K2 146 (fun w μc hw c=>g w μc hw) ?_|refine KZ ?_|refine NB fun b=>?_|(refine KB ?_ ?_<;>intro j))
  all_goals first|exact aQ rfl rfl rfl|(exfalso;simp_all;try omega)
 ·try repeat' (first|((with_reducible show GC _ _ (Code.seq (Code.region 3 _ _) _) _ _ _ _);(apply dX))|refine KO ?_|refine K2 146 (fun w μc hw c=>g w μc hw) ?_|refine KZ ?_|refine NB fun b=>?_|(refine KB ?_ ?_<;>intro j))
  rotate_left
  ·exfalso;simp_all
  rotate_left
  all_goals
   refine gcs ?_
   rename Nat=>ba
   have hg:AY t=(if 1<fR (gL t) 5∨gL t 4=true∧gL t 50=true∨gL t 128=true∧gL t 2=false then false else if gL t 1=true then decide (t.s≠⟨#[]⟩)else decide (fR (gL t) 5=0)||decide (t.s=⟨#[]⟩)):=by unfold AY;rw[if_neg h1]
   have o:=ET (gL t) 5;try repeat' (first|refine KZ ?_|refine NB fun b=>?_)
   refine cD (ι:=Nat) (fun i=>i≤5) (fun i=>5-i) (fun _=>μ) (fun i=>[(27,.int .i64 i),(26,.int .i64 5),(25,.slice (some ⟨b,0,none⟩) 5 5),(3,.int .i64 (fR (gL t) i)),(1,.pointer (some ⟨ba,0,none⟩))]) (fun _=>[.inl ⟨b,3,5,idx 0 [.int .i64 1,.int .i64 2,.int .i64 8,.int .i64 16,.int .i64 32]⟩,.inl ⟨ba,24,6,idx 0 (cO t u)⟩]) 0 (by decide) (fun a w hs=>by rw[aC5];exact J5 hs) ?_;intro i hi;have l:=ET (gL t) i;rcases(by omega:i=5∨i=0∨i=1∨i=2∨i=3∨i=4)with rfl|rfl|rfl|rfl|rfl|rfl
   ·rw[hg];clear hg h1;try repeat' (first|refine KO ?_|refine K2 147 (e _) ?_|refine KZ ?_|(refine KB ?_ ?_<;>intro j))
    all_goals clear g e hk ho
    all_goals first|(refine aQ rfl rfl ?_;simp_all;done)|(refine aQ rfl rfl ?_;simp_all;omega)
   ·have hn:fR (gL t) 1=fR (gL t) 0+ (if gL t 1=true then 1 else 0):=sQ (k:=0) rfl;cases f:gL t 1
    ·rw[f,if_neg (by simp),bZ]at hn;try repeat' (first|refine KO ?_|refine K2 147 (fun w μc hw c=>f▸e 1 w μc hw c) ?_|refine KZ ?_)
     all_goals(rw[←hn];exact J2 1 (by decide) (by decide))
    ·rw[f,if_pos rfl]at hn;try repeat' (first|refine KO ?_|refine K2 147 (fun w μc hw c=>f▸e 1 w μc hw c) ?_|refine KZ ?_)
     all_goals(rw[show((fR (gL t) 0:Nat):Int)+1=((fR (gL t) 1:Nat):Int)from by omega];exact J2 1 (by decide) (by decide))
   ·have hn:fR (gL t) 2=fR (gL t) 1+ (if gL t 2=true then 1 else 0):=sQ (k:=1) rfl;cases f:gL t 2
    ·rw[f,if_neg (by simp),bZ]at hn;try repeat' (first|refine KO ?_|refine K2 147 (fun w μc hw c=>f▸e 2 w μc hw c) ?_|refine KZ ?_)
     all_goals(rw[←hn];exact J2 2 (by decide) (by decide))
    ·rw[f,if_pos rfl]at hn;try repeat' (first|refine KO ?_|refine K2 147 (fun w μc hw c=>f▸e 2 w μc hw c) ?_|refine KZ ?_)
     all_goals(rw[show((fR (gL t) 1:Nat):Int)+1=((fR (gL t) 2:Nat):Int)from by omega];exact J2 2 (by decide) (by decide))
   ·have hn:fR (gL t) 3=fR (gL t) 2+ (if gL t 8=true then 1 else 0):=sQ (k:=2) rfl;cases f:gL t 8
    ·rw[f,if_neg (by simp),bZ]at hn;try repeat' (first|refine KO ?_|refine K2 147 (fun w μc hw c=>f▸e 8 w μc hw c) ?_|refine KZ ?_)
     all_goals(rw[←hn];exact J2 3 (by decide) (by decide))
    ·rw[f,if_pos rfl]at hn;try repeat' (first|refine KO ?_|refine K2 147 (fun w μc hw c=>f▸e 8 w μc hw c) ?_|refine KZ ?_)
     all_goals(rw[show((fR (gL t) 2:Nat):Int)+1=((fR (gL t) 3:Nat):Int)from by omega];exact J2 3 (by decide) (by decide))
   ·have hn:fR (gL t) 4=fR (gL t) 3+ (if gL t 16=true then 1 else 0):=sQ (k:=3) rfl;cases f:gL t 16
    ·rw[f,if_neg (by simp),bZ]at hn;try repeat' (first|refine KO ?_|refine K2 147 (fun w μc hw c=>f▸e 16 w μc hw c) ?_|refine KZ ?_)
     all_goals(rw[←hn];exact J2 4 (by decide) (by decide))
    ·rw[f,if_pos rfl]at hn;try repeat' (first|refine KO ?_|refine K2 147 (fun w μc hw c=>f▸e 16 w μc hw c) ?_|refine KZ ?_)
     all_goals(rw[show((fR (gL t) 3:Nat):Int)+1=((fR (gL t) 4:Nat):Int)from by omega];exact J2 4 (by decide) (by decide))
   ·have hn:fR (gL t) 5=fR (gL t) 4+ (if gL t 32=true then 1 else 0):=sQ (k:=4) rfl;cases f:gL t 32
    ·rw[f,if_neg (by simp),bZ]at hn;try repeat' (first|refine KO ?_|refine K2 147 (fun w μc hw c=>f▸e 32 w μc hw c) ?_|refine KZ ?_)
     all_goals(rw[←hn];exact J2 5 (by decide) (by decide))
    ·rw[f,if_pos rfl]at hn;try repeat' (first|refine KO ?_|refine K2 147 (fun w μc hw c=>f▸e 32 w μc hw c) ?_|refine KZ ?_)
     all_goals(rw[show((fR (gL t) 4:Nat):Int)+1=((fR (gL t) 5:Nat):Int)from by omega];exact J2 5 (by decide) (by decide))
end
section
open Go.RowKit Go.Vcg
noncomputable def fnT (t:T):Bool:=
 if t.n<0∨255<t.n∨t.s≠⟨#[]⟩∧lI t.s=false then false
 else(if 1<fR (fX t) 5∨fX t 4=true∧(fX t 2=true∨fX t 16=true∨fX t 32=true)∨fX t 128=true∧fX t 2=false then false else if fX t 1=true then decide (t.s≠⟨#[]⟩)else decide (fR (fX t) 5=0)||decide (t.s=⟨#[]⟩))
attribute [local irreducible] lI fX fR G GC GQ GA eV Calls IntKind.wrap Int.decLt Int.decLe
theorem aOi(t:T)(u:Value)(w:World)(μ:Mem)(hμ:MOk μ w)(hk:KR μ t.kids u)(hs:t.size≤100000)(h:t.s.size≤65536):
 bC 66 #[.agg (cO t u).toArray] w (.bool (fnT t)):=by
 have ho:=hk.one;refine aF Tryz.func66 rfl Tryz.ntmps66 (by simp) hμ ?_;have g:=fun(w:World) (μc:Mem) (hw:MOk μc w)=>DN t.s h w μc hw;have e:=fun(m:Int) (hm:m≠0) (w:World) (μc:Mem) (hw:MOk μc w) (hle:MLe μ μc)=>uF m hm t u w μc hw (hk.mono hle);by_cases h1:t.n<0∨255<t.n∨t.s≠⟨#[]⟩∧lI t.s=false
 ·have hg:fnT t=false:=by unfold fnT;rw[if_pos h1]
  rw[hg];try repeat' (first|((with_reducible show GC _ _ (Code.seq (Code.region 3 _ _) _) _ _ _ _);(apply dX))|refine KO ?_|refine K2 89 (fun w μc hw c=>g w μc hw) ?_|refine KZ ?_|refine NB fun b=>?_|(refine KB ?_ ?_<;>intro j))
  all_goals first|exact aQ rfl rfl rfl|(exfalso;simp_all;try omega)
 ·try repeat' (first|((with_reducible show GC _ _ (Code.seq (Code.region 3 _ _) _) _ _ _ _);(apply dX))|refine KO ?_|refine K2 89 (fun w μc hw c=>g w μc hw) ?_|refine KZ ?_|refine NB fun b=>?_|(refine KB ?_ ?_<;>intro j))
  rotate_left
  ·exfalso;simp_all
  rotate_left
  all_goals
   refine gcs ?_
   rename Nat=>ba
   have hg:fnT t=(if 1<fR (fX t) 5∨fX t 4=true∧(fX t 2=true∨fX t 16=true∨fX t 32=true)∨fX t 128=true∧fX t 2=false then false else if fX t 1=true then decide (t.s≠⟨#[]⟩)else decide (fR (fX t) 5=0)||decide (t.s=⟨#[]⟩)):=by unfold fnT;rw[if_neg h1]
   have o:=ET (fX t) 5;try repeat' (first|refine KZ ?_|refine NB fun b=>?_)
   refine cD (ι:=Nat) (fun i=>i≤5) (fun i=>5-i) (fun _=>μ) (fun i=>[(5,.int .i64 i),(4,.slice (some ⟨b,0,none⟩) 5 5),(3,.int .i64 (fR (fX t) i)),(1,.pointer (some ⟨ba,0,none⟩))]) (fun _=>[.inl ⟨b,3,5,idx 0 [.int .i64 1,.int .i64 2,.int .i64 8,.int .i64 16,.int .i64 32]⟩,.inl ⟨ba,24,6,idx 0 (cO t u)⟩]) 0 (by decide) (fun a w hs=>by rw[aC5];exact J5 hs) ?_;intro i hi;have l:=ET (fX t) i;rcases(by omega:i=5∨i=0∨i=1∨i=2∨i=3∨i=4)with rfl|rfl|rfl|rfl|rfl|rfl
   ·rw[hg];clear hg h1;try repeat' (first|refine KO ?_|((with_reducible apply F1 90);exact rfl;exact EN;exact fun w μc hw c=>e _ (by decide) w μc hw c.le)|refine KZ ?_|(refine KB ?_ ?_<;>intro j))
    all_goals clear g e hk ho
    all_goals first|(refine aQ rfl rfl ?_;simp_all;done)|(refine aQ rfl rfl ?_;simp_all;omega)
   ·have hn:fR (fX t) 1=fR (fX t) 0+ (if fX t 1=true then 1 else 0):=sQ (k:=0) rfl;cases f:fX t 1
    ·rw[f,if_neg (by simp),bZ]at hn;try repeat' (refine KZ ?_)
     refine aZ 6 _ (by kernel_rfl) rfl (aD (aD aT)) ?_;all_goals(refine DD 0 ?_;refine DD 1 ?_;refine DD 2 ?_;refine D2 3 rfl (by exact U1 0) ?_;refine DD 4 ?_;refine D3 5 ?_;refine D5 ?_;refine K2 90 (fun w μc hw c=>f▸e 1 (by decide) w μc hw c) ?_;refine D9 ?_;refine D8 ?_)
     try repeat' (refine KZ ?_)
     all_goals(rw[←hn];exact J2 1 (by decide) (by decide))
    ·rw[f,if_pos rfl]at hn;try repeat' (refine KZ ?_)
     refine aZ 6 _ (by kernel_rfl) rfl (aD (aD aT)) ?_;all_goals(refine DD 0 ?_;refine DD 1 ?_;refine DD 2 ?_;refine D2 3 rfl (by exact U1 0) ?_;refine DD 4 ?_;refine D3 5 ?_;refine D5 ?_;refine K2 90 (fun w μc hw c=>f▸e 1 (by decide) w μc hw c) ?_;refine D9 ?_;refine D8 ?_)
     try repeat' (refine KZ ?_)
     all_goals(rw[show((fR (fX t) 0:Nat):Int)+1=((fR (fX t) 1:Nat):Int)from by omega];exact J2 1 (by decide) (by decide))
   ·have hn:fR (fX t) 2=fR (fX t) 1+ (if fX t 2=true then 1 else 0):=sQ (k:=1) rfl;cases f:fX t 2
    ·rw[f,if_neg (by simp),bZ]at hn;try repeat' (refine KZ ?_)
     refine aZ 6 _ (by kernel_rfl) rfl (aD (aD aT)) ?_;all_goals(refine DD 0 ?_;refine DD 1 ?_;refine DD 2 ?_;refine D2 3 rfl (by exact U1 1) ?_;refine DD 4 ?_;refine D3 5 ?_;refine D5 ?_;refine K2 90 (fun w μc hw c=>f▸e 2 (by decide) w μc hw c) ?_;refine D9 ?_;refine D8 ?_)
     try repeat' (refine KZ ?_)
     all_goals(rw[←hn];exact J2 2 (by decide) (by decide))
    ·rw[f,if_pos rfl]at hn;try repeat' (refine KZ ?_)
     refine aZ 6 _ (by kernel_rfl) rfl (aD (aD aT)) ?_;all_goals(refine DD 0 ?_;refine DD 1 ?_;refine DD 2 ?_;refine D2 3 rfl (by exact U1 1) ?_;refine DD 4 ?_;refine D3 5 ?_;refine D5 ?_;refine K2 90 (fun w μc hw c=>f▸e 2 (by decide) w μc hw c) ?_;refine D9 ?_;refine D8 ?_)
     try repeat' (refine KZ ?_)
     all_goals(rw[show((fR (fX t) 1:Nat):Int)+1=((fR (fX t) 2:Nat):Int)from by omega];exact J2 2 (by decide) (by decide))
   ·have hn:fR (fX t) 3=fR (fX t) 2+ (if fX t 8=true then 1 else 0):=sQ (k:=2) rfl;cases f:fX t 8
    ·rw[f,if_neg (by simp),bZ]at hn;try repeat' (refine KZ ?_)
     refine aZ 6 _ (by kernel_rfl) rfl (aD (aD aT)) ?_;all_goals(refine DD 0 ?_;refine DD 1 ?_;refine DD 2 ?_;refine D2 3 rfl (by exact U1 2) ?_;refine DD 4 ?_;refine D3 5 ?_;refine D5 ?_;refine K2 90 (fun w μc hw c=>f▸e 8 (by decide) w μc hw c) ?_;refine D9 ?_;refine D8 ?_)
     try repeat' (refine KZ ?_)
     all_goals(rw[←hn];exact J2 3 (by decide) (by decide))
    ·rw[f,if_pos rfl]at hn;try repeat' (refine KZ ?_)
     refine aZ 6 _ (by kernel_rfl) rfl (aD (aD aT)) ?_;all_goals(refine DD 0 ?_;refine DD 1 ?_;refine DD 2 ?_;refine D2 3 rfl (by exact U1 2) ?_;refine DD 4 ?_;refine D3 5 ?_;refine D5 ?_;refine K2 90 (fun w μc hw c=>f▸e 8 (by decide) w μc hw c) ?_;refine D9 ?_;refine D8 ?_)
     try repeat' (refine KZ ?_)
     all_goals(rw[show((fR (fX t) 2:Nat):Int)+1=((fR (fX t) 3:Nat):Int)from by omega];exact J2 3 (by decide) (by decide))
   ·have hn:fR (fX t) 4=fR (fX t) 3+ (if fX t 16=true then 1 else 0):=sQ (k:=3) rfl;cases f:fX t 16
    ·rw[f,if_neg (by simp),bZ]at hn;try repeat' (refine KZ ?_)
     refine aZ 6 _ (by kernel_rfl) rfl (aD (aD aT)) ?_;all_goals(refine DD 0 ?_;refine DD 1 ?_;refine DD 2 ?_;refine D2 3 rfl (by exact U1 3) ?_;refine DD 4 ?_;refine D3 5 ?_;refine D5 ?_;refine K2 90 (fun w μc hw c=>f▸e 16 (by decide) w μc hw c) ?_;refine D9 ?_;refine D8 ?_)
     try repeat' (refine KZ ?_)
     all_goals(rw[←hn];exact J2 4 (by decide) (by decide))
    ·rw[f,if_pos rfl]at hn;try repeat' (refine KZ ?_)
     refine aZ 6 _ (by kernel_rfl) rfl (aD (aD aT)) ?_;all_goals(refine DD 0 ?_;refine DD 1 ?_;refine DD 2 ?_;refine D2 3 rfl (by exact U1 3) ?_;refine DD 4 ?_;refine D3 5 ?_;refine D5 ?_;refine K2 90 (fun w μc hw c=>f▸e 16 (by decide) w μc hw c) ?_;refine D9 ?_;refine D8 ?_)
     try repeat' (refine KZ ?_)
     all_goals(rw[show((fR (fX t) 3:Nat):Int)+1=((fR (fX t) 4:Nat):Int)from by omega];exact J2 4 (by decide) (by decide))
   ·have hn:fR (fX t) 5=fR (fX t) 4+ (if fX t 32=true then 1 else 0):=sQ (k:=4) rfl;cases f:fX t 32
    ·rw[f,if_neg (by simp),bZ]at hn;try repeat' (refine KZ ?_)
     refine aZ 6 _ (by kernel_rfl) rfl (aD (aD aT)) ?_;all_goals(refine DD 0 ?_;refine DD 1 ?_;refine DD 2 ?_;refine D2 3 rfl (by exact U1 4) ?_;refine DD 4 ?_;refine D3 5 ?_;refine D5 ?_;refine K2 90 (fun w μc hw c=>f▸e 32 (by decide) w μc hw c) ?_;refine D9 ?_;refine D8 ?_)
     try repeat' (refine KZ ?_)
     all_goals(rw[←hn];exact J2 5 (by decide) (by decide))
    ·rw[f,if_pos rfl]at hn;try repeat' (refine KZ ?_)
     refine aZ 6 _ (by kernel_rfl) rfl (aD (aD aT)) ?_;all_goals(refine DD 0 ?_;refine DD 1 ?_;refine DD 2 ?_;refine D2 3 rfl (by exact U1 4) ?_;refine DD 4 ?_;refine D3 5 ?_;refine D5 ?_;refine K2 90 (fun w μc hw c=>f▸e 32 (by decide) w μc hw c) ?_;refine D9 ?_;refine D8 ?_)
     try repeat' (refine KZ ?_)
     all_goals(rw[show((fR (fX t) 4:Nat):Int)+1=((fR (fX t) 5:Nat):Int)from by omega];exact J2 5 (by decide) (by decide))
end
section
open Go.RowKit Go.Vcg
theorem aTy(s:ByteArray):pX s BC=(decide (s=⟨#[43,43]⟩)||decide (s=⟨#[45,45]⟩)):=by
 unfold pX vK BC;simp only[aL,iR,kJ,List.any_nil,Bool.or_false,id_eq]
theorem aTx(s:ByteArray):pX s BB=(decide (s=⟨#[38,38]⟩)||(decide (s=⟨#[124,124]⟩)||decide (s=⟨#[63,63]⟩))):=by
 unfold pX vK BB;simp only[aL,iR,kJ,List.any_nil,Bool.or_false,id_eq]
attribute [local irreducible] lI pX G GC GQ GA eV Calls IntKind.wrap Int.decLt Int.decLe
theorem aQ5(t:T)(u:Value)(w:World)(μ:Mem)(hμ:MOk μ w)(hk:KR μ t.kids u)(c:t.op=42):
 bC 67 #[.agg (cO t u).toArray] w (.bool (pX t.s EO)):=by
 have ho:=hk.one;refine aF Tryz.func67 rfl Tryz.ntmps67 (by simp) hμ ?_;try repeat' (first|refine KO ?_|((with_reducible apply F1 91);exact rfl;exact EN;exact fun w μc hw a=>HK t.s EO _ _ _ w μc hw (cR a.hd rfl (by simp) (by repeat first|exact cH|refine bL rfl ?_)) (by decide))|refine KZ ?_|refine NB fun b=>?_)
 all_goals exact aQ rfl rfl rfl
theorem aQ3(t:T)(u:Value)(w:World)(μ:Mem)(hμ:MOk μ w)(hk:KR μ t.kids u)(c:t.op=44):
 bC 67 #[.agg (cO t u).toArray] w (.bool (pX t.s EM)):=by
 have ho:=hk.one;refine aF Tryz.func67 rfl Tryz.ntmps67 (by simp) hμ ?_;try repeat' (first|refine KO ?_|((with_reducible apply F1 91);exact rfl;exact EN;exact fun w μc hw a=>HK t.s EM _ _ _ w μc hw (cR a.hd rfl (by simp) (by repeat first|exact cH|refine bL rfl ?_)) (by decide))|refine KZ ?_|refine NB fun b=>?_)
 all_goals exact aQ rfl rfl rfl
theorem aQ1(t:T)(u:Value)(w:World)(μ:Mem)(hμ:MOk μ w)(hk:KR μ t.kids u)(c:t.op=46):
 bC 67 #[.agg (cO t u).toArray] w (.bool (pX t.s EL)):=by
 have ho:=hk.one;refine aF Tryz.func67 rfl Tryz.ntmps67 (by simp) hμ ?_;try repeat' (first|refine KO ?_|((with_reducible apply F1 91);exact rfl;exact EN;exact fun w μc hw a=>HK t.s EL _ _ _ w μc hw (cR a.hd rfl (by simp) (by repeat first|exact cH|refine bL rfl ?_)) (by decide))|refine KZ ?_|refine NB fun b=>?_)
 all_goals exact aQ rfl rfl rfl
theorem aQ4(t:T)(u:Value)(w:World)(μ:Mem)(hμ:MOk μ w)(hk:KR μ t.kids u)(a:t.op=43):
 bC 67 #[.agg (cO t u).toArray] w (.bool (pX t.s BC)):=by
 have ho:=hk.one;refine aF Tryz.func67 rfl Tryz.ntmps67 (by simp) hμ ?_;rw[aTy];try repeat' (first|refine KZ ?_|refine NB fun b=>?_|(refine KB ?_ ?_<;>intro c))
 all_goals(refine aQ rfl rfl ?_;simp_all;done)
theorem aQ2(t:T)(u:Value)(w:World)(μ:Mem)(hμ:MOk μ w)(hk:KR μ t.kids u)(a:t.op=45):
 bC 67 #[.agg (cO t u).toArray] w (.bool (pX t.s BB)):=by
 have ho:=hk.one;refine aF Tryz.func67 rfl Tryz.ntmps67 (by simp) hμ ?_;rw[aTx];try repeat' (first|refine KZ ?_|refine NB fun b=>?_|(refine KB ?_ ?_<;>intro c))
 all_goals(refine aQ rfl rfl ?_;simp_all;done)
theorem aA8(t:T)(u:Value)(w:World)(μ:Mem)(hμ:MOk μ w)(hk:KR μ t.kids u)(h:t.s.size≤65536):
 bC 67 #[.agg (cO t u).toArray] w (.bool (oM t)):=by
 by_cases g:t.op=42
 ·simpa[oM,g]using aQ5 t u w μ hμ hk g
 by_cases f:t.op=43
 ·simpa[oM,f]using aQ4 t u w μ hμ hk f
 by_cases e:t.op=44
 ·simpa[oM,e]using aQ3 t u w μ hμ hk e
 by_cases c:t.op=45
 ·simpa[oM,c]using aQ2 t u w μ hμ hk c
 by_cases a:t.op=46
 ·simpa[oM,a]using aQ1 t u w μ hμ hk a
 have ho:=hk.one;refine aF Tryz.func67 rfl Tryz.ntmps67 (by simp) hμ ?_;try repeat' (first|refine KO ?_|refine K2 89 (fun w μc hw i=>DN t.s h w μc hw) ?_|refine KZ ?_|refine NB fun b=>?_|(refine KB ?_ ?_<;>intro j))
 all_goals(refine aQ rfl rfl ?_;simp_all[oM])
end
section
open Go.RowKit Go.Vcg
def xM(t:T):Bool:=decide (t.op=62)||(decide (t.op=39)&&decide (t.n≠3)&&decide (t.n≠4))
def IB(t:T):Bool:=decide (t.at' <0)||(decide (t.m≠0)&&(decide (t.m≠1)|| !xM t))
noncomputable def nV (t:T):Bool:=
 if IB t=true then false else if t.op=4 then AY t else decide (0≤t.n)&&decide (t.n≤lB t.op)&&oM t
attribute [local irreducible] AY oM lB G GC GQ GA eV Calls IntKind.wrap Int.decLt Int.decLe
theorem UU(t:T)(u:Value)(w:World)(μ:Mem)(hμ:MOk μ w)(hk:KR μ t.kids u)(hs:t.size≤100000)(c:t.s.size≤65536)(f:sO μ):
 bC 77 #[.agg (cO t u).toArray] w (.bool (nV t)):=by
 have ho:=hk.one;refine aF Tryz.func77 rfl Tryz.ntmps77 (by simp) hμ ?_;cases hb:IB t
 ·by_cases h4:t.op=4
  ·have hg:nV t=AY t:=by unfold nV;rw[if_neg (by simp[hb]),if_pos h4]
   rw[hg];clear hg;try repeat' (first|refine KO ?_|refine K2 115 (fun w μc hw a=>aHg t u w μc hw (hk.mono a) hs c) ?_|refine KZ ?_|refine NB fun b=>?_|(refine KB ?_ ?_<;>intro e))
   all_goals first|exact aQ rfl rfl rfl|(exfalso;simp_all[IB,xM];done)
  ·have hg:nV t=(decide (0≤t.n)&&decide (t.n≤lB t.op)&&oM t):=by unfold nV;rw[if_neg (by simp[hb]),if_neg h4]
   rw[hg];clear hg;try repeat' (first|refine KZ ?_|refine NB fun b=>?_|(refine KB ?_ ?_<;>intro e))
   all_goals first|(exfalso;clear hk f hμ;simp_all[IB,xM];done)|skip
   all_goals
    refine aZ 16 _ (by kernel_rfl) rfl (aD aT) ?_;all_goals(refine DD 0 ?_;refine DD 1 ?_;refine DD 2 ?_;refine DD 3 ?_)
    all_goals(try(refine D7 4 ?_;(repeat' (first|refine KO ?_|(refine KB ?_ ?_<;>intro e)))))
    all_goals(refine DD 4 ?_;refine DD 5 ?_;refine DD 6 ?_;refine DD 7 ?_)
    all_goals(first|(refine D3 8 ?_;refine D5 ?_;refine K2 116 (fun w μc hw a=>aF2 t.op w μc hw) ?_;refine D9 ?_)|refine D3 8 (D6 ?_))
    all_goals(refine DD 9 ?_;refine DD 10 ?_;refine DD 11 ?_)
    all_goals(try(refine D7 12 ?_;(repeat' (refine KB ?_ ?_<;>intro e))))
    all_goals refine DD 12 ?_
    all_goals(first|(refine D3 13 ?_;refine D5 ?_;refine K2 117 (fun w μc hw a=>aE2 t u w μc hw (hk.mono a) c (f.mono a)) ?_;refine D9 ?_)|refine D3 13 (D6 ?_))
    all_goals(refine DD 14 ?_;refine DD 15 ?_;refine D8 ?_)
    try repeat' (refine KZ ?_)
    all_goals(refine aQ rfl rfl ?_;simp_all;try(intros;omega))
 ·have hg:nV t=false:=by unfold nV;rw[if_pos hb]
  rw[hg];clear hg;try repeat' (first|refine KZ ?_|refine NB fun b=>?_|(refine KB ?_ ?_<;>intro e))
  all_goals first|exact aQ rfl rfl rfl|(exfalso;clear hk f hμ;simp_all[IB,xM];done)
end
section
open Go.RowKit Go.Vcg
noncomputable def lA (t:T):Bool:=
 if IB t=true then false else if t.op=4 then fnT t else decide (0≤t.n)&&decide (t.n≤lB t.op)&&oM t
attribute [local irreducible] fnT oM lB G GC GQ GA eV Calls IntKind.wrap Int.decLt Int.decLe
theorem TO(t:T)(u:Value)(w:World)(μ:Mem)(hμ:MOk μ w)(hk:KR μ t.kids u)(hs:t.size≤100000)(i:t.s.size≤65536):
 bC 42 #[.agg (cO t u).toArray] w (.bool (lA t)):=by
 have ho:=hk.one;refine aF Tryz.func42 rfl Tryz.ntmps42 (by simp) hμ ?_;have c:IB t=(decide (t.at' <0)||(decide (t.m≠0)&&(decide (t.m≠1)|| !xM t))):=rfl;try repeat' (first|((with_reducible show GC _ _ (Code.seq (Code.region 1 _ _) _) _ _ _ _);(apply dX))|refine KZ ?_|refine NB fun b=>?_)
 refine gcs (iT (ι:=Unit) (fun _=>True) (fun _=>μ) (fun _=>[(3,.bool (xM t)),(1,.pointer (some ⟨b,0,none⟩))]) (fun _=>[.inl ⟨b,24,6,idx 0 (cO t u)⟩]) ?_ ?_)
 ·by_cases e:t.op=62
  ·have hc:xM t=true:=by unfold xM;rw[decide_eq_true e,Bool.true_or]
   rw[hc];try repeat' (refine KZ ?_)
   all_goals first|skip
   all_goals try rw[decide_eq_true e]
   all_goals exact J1 () trivial
  ·by_cases f:t.op=39∧t.n≠3∧t.n≠4
   ·have hc:xM t=true:=by unfold xM;rw[decide_eq_true f.1,decide_eq_true f.2.1,decide_eq_true f.2.2];simp
    rw[hc];try repeat' (refine KZ ?_)
    all_goals exact J1 () trivial
   ·have hc:xM t=false:=by unfold xM;rw[decide_eq_false e,nE,Bool.eq_false_iff];intro h;simp only[aM,decide_eq_true_eq]at h;exact f ⟨h.1.1,h.1.2,h.2⟩
    rw[hc];try repeat' (first|refine KZ ?_|(refine KB ?_ ?_<;>intro j))
    all_goals first|skip
    all_goals try rw[decide_eq_false e]
    all_goals exact J1 () trivial
 ·intro _ _;generalize xM t=m at c;cases hb:IB t
  ·rw [hb]at c;by_cases h4:t.op=4
   ·have hg:lA t=fnT t:=by unfold lA;rw[if_neg (by simp[hb]),if_pos h4]
    rw[hg];clear hg;cases m;all_goals
     simp at c;try repeat' (first|refine KO ?_|refine K2 66 (fun w μc hw g=>aOi t u w μc hw (hk.mono g) hs i) ?_|refine KZ ?_|(refine KB ?_ ?_<;>intro j))
     all_goals exact aQ rfl rfl rfl
   ·have hg:lA t=(decide (0≤t.n)&&decide (t.n≤lB t.op)&&oM t):=by unfold lA;rw[if_neg (by simp[hb]),if_neg h4]
    rw[hg];clear hg;cases m;all_goals
     simp at c;try repeat' (first|((with_reducible show GC _ _ (Code.seq (Code.region 4 _ _) _) _ _ _ _);(apply dX))|refine KZ ?_|(refine KB ?_ ?_<;>intro j))
     all_goals first|skip
    all_goals
     refine gcs ?_;try repeat' (first|((with_reducible show GC _ _ (Code.seq (Code.seq (Code.region 5 _ _) _) _) _ _ _ _);(apply dX))|refine KZ ?_)
     refine gcs (iT (ι:=Unit) (fun _=>True) (fun _=>μ) (fun _=>[(4,.int .i64 (lB t.op)),(1,.pointer (some ⟨b,0,none⟩))]) (fun _=>[.inl ⟨b,24,6,idx 0 (cO t u)⟩]) ?_ ?_)
     rotate_left
     ·intro _ _;try repeat' (first|refine KO ?_|refine K2 67 (fun w μc hw g=>aA8 t u w μc hw (hk.mono g) i) ?_|refine KZ ?_|(refine KB ?_ ?_<;>intro j))
      all_goals(clear hk hμ ho;refine aQ rfl rfl ?_;simp_all;try(intros;omega))
     by_cases p:t.op=1∨t.op=22∨t.op=32∨t.op=43∨t.op=49∨t.op=51∨t.op=52∨t.op=54
     ·have hm:lB t.op=1:=by unfold lB;(repeat rw[if_pos (by omega)])
      rw[hm];try repeat' (first|refine KZ ?_|(refine KB ?_ ?_<;>intro j))
      all_goals exact J1 () trivial
     by_cases o:t.op=2
     ·have hm:lB t.op=2:=by unfold lB;(repeat first|rw[if_pos (by omega)]|rw[if_neg (by omega)])
      rw[hm];try repeat' (refine KZ ?_)
      all_goals exact J1 () trivial
     by_cases a:t.op=30
     ·have hm:lB t.op=9007199254740992:=by unfold lB;(repeat first|rw[if_pos (by omega)]|rw[if_neg (by omega)])
      rw[hm];try repeat' (refine KZ ?_)
      all_goals exact J1 () trivial
     by_cases l:t.op=39
     ·have hm:lB t.op=5:=by unfold lB;(repeat first|rw[if_pos (by omega)]|rw[if_neg (by omega)])
      rw[hm];try repeat' (refine KZ ?_)
      all_goals exact J1 () trivial
     have hm:lB t.op=0:=by unfold lB;(repeat rw[if_neg (by omega)])
     rw[hm];try repeat' (refine KZ ?_)
     all_goals exact J1 () trivial
  ·have hg:lA t=false:=by unfold lA;rw[if_pos hb]
   rw[hg];clear hg;rw[hb]at c;cases m;all_goals
    simp at c;try repeat' (first|refine KZ ?_|(refine KB ?_ ?_<;>intro j))
    all_goals exact aQ rfl rfl rfl
end
section
open Go.RowKit Go.Vcg
def pP(t:T):ByteArray:=if t.m=1 then⟨#[69]⟩else⟨#[107]⟩
def tU(t:T):ByteArray:=
 if t.n=0 then pP t++⟨#[69]⟩else if t.n=1 then pP t++⟨#[103]⟩else if t.n=2 then pP t++⟨#[115]⟩else if t.n=3 then⟨#[119]⟩else if t.n=4 then⟨#[69]⟩else if t.n=5 then pP t++⟨#[109]⟩else⟨#[33]⟩
def kA(t:T):ByteArray:=
 if t.op=21 then⟨#[69,75,42]⟩
 else if t.op=22 then(if t.n=1 then⟨#[83,42]⟩else⟨#[69,83,42]⟩)
 else if t.op=23 then⟨#[83]⟩
 else if t.op=37 then⟨#[65,42]⟩
 else if t.op=38 then⟨#[82,42]⟩
 else if t.op=39 then(tU t)
 else if t.op=43 then⟨#[116]⟩
 else if t.op=44∨t.op=45∨t.op=52 then⟨#[69,69]⟩
 else if t.op=46 then(if t.s=⟨#[61]⟩then⟨#[84,69]⟩else⟨#[116,69]⟩)
 else if t.op=47 then⟨#[69,69,69]⟩
 else if t.op=48 then⟨#[69,69,69,42]⟩
 else if t.op=49∨t.op=50 then⟨#[69,97,42]⟩
 else if t.op=51 then⟨#[69]⟩
 else if t.op=53 then⟨#[99]⟩
 else if t.op=54 then(if t.n=1 then⟨#[69]⟩else⟨#[69,63]⟩)
 else if t.op=60 then⟨#[72,42,90,63]⟩
 else if t.op=61 then⟨#[81,42,90,63]⟩
 else if t.op=62 then(if t.m=1 then⟨#[69,70]⟩else⟨#[107,70]⟩)
 else if t.op=63 then⟨#[84,69]⟩
 else if t.op=64 then⟨#[84]⟩
 else⟨#[33]⟩
def bO(t:T):ByteArray:=
 if t.op=1∨t.op=6 then⟨#[83,42]⟩
 else if t.op=2 then⟨#[68,68,42]⟩
 else if t.op=3 then⟨#[84,69,63]⟩
 else if t.op=4 then(if(IntKind.i64.wrap (t.n.tdiv 128)).tmod 2=1 then⟨#[80,69]⟩else⟨#[80,66]⟩)
 else if t.op=5 then⟨#[70,42,90,63]⟩
 else if t.op=7∨t.op=15∨t.op=16∨t.op=30∨t.op=31∨t.op=32∨t.op=33∨t.op=34∨t.op=35∨t.op=40 then⟨#[]⟩
 else if t.op=8∨t.op=18∨t.op=41∨t.op=42 then⟨#[69]⟩
 else if t.op=9 then⟨#[69,83,83,63]⟩
 else if t.op=10 then⟨#[73,77,77,83]⟩
 else if t.op=11∨t.op=12 then⟨#[76,69,83]⟩
 else if t.op=13 then⟨#[69,83]⟩
 else if t.op=14 then⟨#[83,69]⟩
 else if t.op=17 then⟨#[69,63]⟩
 else if t.op=19 then⟨#[66,67,89]⟩
 else if t.op=20 then⟨#[71,66]⟩
 else kA t
theorem aGs(t:T):(pP t).size=1:=by unfold pP;split<;>rfl
attribute [local irreducible] pP G GC GQ GA eV Calls IntKind.wrap Int.decLt Int.decLe
theorem aBa(t:T)(u:Value)(w:World)(μ:Mem)(hμ:MOk μ w)(hk:KR μ t.kids u):
 bC 92 #[.agg (cO t u).toArray] w (.string (tU t)):=by
 have ho:=hk.one;refine aF Tryz.func92 rfl Tryz.ntmps92 (by simp) hμ ?_;by_cases hm:t.m=1
 ·have hg:pP t=⟨#[69]⟩:=by unfold pP;rw[if_pos hm]
  unfold tU;rw[hg];try repeat' (first|refine KO ?_|(refine KV (b:=by((with_reducible apply aAh);exact rfl;exact rfl;decide)) (c:=?_))|refine KZ ?_|refine NB fun b=>?_|(refine KB ?_ ?_<;>intro a))
  all_goals(refine aQ rfl rfl ?_;(repeat first|rw[if_pos (by omega)]|rw[if_neg (by omega)]);done)
 ·have hg:pP t=⟨#[107]⟩:=by unfold pP;rw[if_neg hm]
  unfold tU;rw[hg];try repeat' (first|refine KO ?_|(refine KV (b:=by((with_reducible apply aAh);exact rfl;exact rfl;decide)) (c:=?_))|refine KZ ?_|refine NB fun b=>?_|(refine KB ?_ ?_<;>intro a))
  all_goals(refine aQ rfl rfl ?_;(repeat first|rw[if_pos (by omega)]|rw[if_neg (by omega)]);done)
theorem aF3(t:T)(u:Value)(w:World)(μ:Mem)(hμ:MOk μ w)(hk:KR μ t.kids u):
 bC 69 #[.agg (cO t u).toArray] w (.string (kA t)):=by
 have ho:=hk.one;refine aF Tryz.func69 rfl Tryz.ntmps69 (by simp) hμ ?_;unfold kA;by_cases ah:t.op=21
 ·rw[if_pos ah];try repeat' (first|refine KZ ?_|refine NB fun b=>?_)
  all_goals exact aQ rfl rfl rfl
 rw[if_neg ah];by_cases ag:t.op=22
 ·rw[if_pos ag];by_cases f:t.n=1
  ·rw[if_pos f];try repeat' (first|refine KZ ?_|refine NB fun b=>?_)
   all_goals exact aQ rfl rfl rfl
  ·rw[if_neg f];try repeat' (first|refine KZ ?_|refine NB fun b=>?_)
   all_goals exact aQ rfl rfl rfl
 rw[if_neg ag];by_cases af:t.op=23
 ·rw[if_pos af];try repeat' (first|refine KZ ?_|refine NB fun b=>?_)
  all_goals exact aQ rfl rfl rfl
 rw[if_neg af];by_cases ae:t.op=37
 ·rw[if_pos ae];try repeat' (first|refine KZ ?_|refine NB fun b=>?_)
  all_goals exact aQ rfl rfl rfl
 rw[if_neg ae];by_cases ad:t.op=38
 ·rw[if_pos ad];try repeat' (first|refine KZ ?_|refine NB fun b=>?_)
  all_goals exact aQ rfl rfl rfl
 rw[if_neg ad];by_cases ab:t.op=39
 ·rw[if_pos ab];try repeat' (first|refine KO ?_|refine K2 92 (fun w μc hw ai=>aBa t u w μc hw (hk.mono ai)) ?_|refine KZ ?_|refine NB fun b=>?_)
  all_goals exact aQ rfl rfl rfl
 rw[if_neg ab];by_cases aa:t.op=43
 ·rw[if_pos aa];try repeat' (first|refine KZ ?_|refine NB fun b=>?_)
  all_goals exact aQ rfl rfl rfl
 rw[if_neg aa];by_cases z:t.op=44∨t.op=45∨t.op=52
 ·rw[if_pos z];try repeat' (first|refine KZ ?_|refine NB fun b=>?_|(refine KB ?_ ?_<;>intro hp))
  all_goals exact aQ rfl rfl rfl
 rw[if_neg z];by_cases y:t.op=46
 ·rw[if_pos y];by_cases e:t.s=⟨#[61]⟩
  ·rw[if_pos e];try repeat' (first|refine KZ ?_|refine NB fun b=>?_)
   all_goals exact aQ rfl rfl rfl
  ·rw[if_neg e];try repeat' (first|refine KZ ?_|refine NB fun b=>?_)
   all_goals exact aQ rfl rfl rfl
 rw[if_neg y];by_cases x:t.op=47
 ·rw[if_pos x];try repeat' (first|refine KZ ?_|refine NB fun b=>?_)
  all_goals exact aQ rfl rfl rfl
 rw[if_neg x];by_cases v:t.op=48
 ·rw[if_pos v];try repeat' (first|refine KZ ?_|refine NB fun b=>?_)
  all_goals exact aQ rfl rfl rfl
 rw[if_neg v];by_cases r:t.op=49∨t.op=50
 ·rw[if_pos r];try repeat' (first|refine KZ ?_|refine NB fun b=>?_|(refine KB ?_ ?_<;>intro hp))
  all_goals exact aQ rfl rfl rfl
 rw[if_neg r];by_cases q:t.op=51
 ·rw[if_pos q];try repeat' (first|refine KZ ?_|refine NB fun b=>?_)
  all_goals exact aQ rfl rfl rfl
 rw[if_neg q];by_cases p:t.op=53
 ·rw[if_pos p];try repeat' (first|refine KZ ?_|refine NB fun b=>?_)
  all_goals exact aQ rfl rfl rfl
 rw[if_neg p];by_cases o:t.op=54
 ·rw[if_pos o];by_cases c:t.n=1
  ·rw[if_pos c];try repeat' (first|refine KZ ?_|refine NB fun b=>?_)
   all_goals exact aQ rfl rfl rfl
  ·rw[if_neg c];try repeat' (first|refine KZ ?_|refine NB fun b=>?_)
   all_goals exact aQ rfl rfl rfl
 rw[if_neg o];by_cases l:t.op=60
 ·rw[if_pos l];try repeat' (first|refine KZ ?_|refine NB fun b=>?_)
  all_goals exact aQ rfl rfl rfl
 rw[if_neg l];by_cases j:t.op=61
 ·rw[if_pos j];try repeat' (first|refine KZ ?_|refine NB fun b=>?_)
  all_goals exact aQ rfl rfl rfl
 rw[if_neg j];by_cases i:t.op=62
 ·rw[if_pos i];by_cases a:t.m=1
  ·rw[if_pos a];try repeat' (first|refine KZ ?_|refine NB fun b=>?_)
   all_goals exact aQ rfl rfl rfl
  ·rw[if_neg a];try repeat' (first|refine KZ ?_|refine NB fun b=>?_)
   all_goals exact aQ rfl rfl rfl
 rw[if_neg i];by_cases h:t.op=63
 ·rw[if_pos h];try repeat' (first|refine KZ ?_|refine NB fun b=>?_)
  all_goals exact aQ rfl rfl rfl
 rw[if_neg h];by_cases g:t.op=64
 ·rw[if_pos g];try repeat' (first|refine KZ ?_|refine NB fun b=>?_)
  all_goals exact aQ rfl rfl rfl
 rw[if_neg g];try repeat' (first|refine KZ ?_|refine NB fun b=>?_)
 all_goals exact aQ rfl rfl rfl
theorem aBu(t:T)(u:Value)(w:World)(μ:Mem)(hμ:MOk μ w)(hk:KR μ t.kids u):
 bC 45 #[.agg (cO t u).toArray] w (.string (bO t)):=by
 have ho:=hk.one;refine aF Tryz.func45 rfl Tryz.ntmps45 (by simp) hμ ?_;unfold bO;by_cases h1:t.op=1∨t.op=6
 ·rw[if_pos h1];try repeat' (first|refine KZ ?_|refine NB fun b=>?_|(refine KB ?_ ?_<;>intro p))
  all_goals exact aQ rfl rfl rfl
 rw[if_neg h1];by_cases h2:t.op=2
 ·rw[if_pos h2];try repeat' (first|refine KZ ?_|refine NB fun b=>?_)
  all_goals exact aQ rfl rfl rfl
 rw[if_neg h2];by_cases h3:t.op=3
 ·rw[if_pos h3];try repeat' (first|refine KZ ?_|refine NB fun b=>?_)
  all_goals exact aQ rfl rfl rfl
 rw[if_neg h3];by_cases h4:t.op=4
 ·rw[if_pos h4];by_cases a:(IntKind.i64.wrap (t.n.tdiv 128)).tmod 2=1
  ·rw[if_pos a];try repeat' (first|refine KO ?_|(refine KV (b:=by((with_reducible apply VS);exact rfl;exact rfl;decide)) (c:=?_))|refine KZ ?_|refine NB fun b=>?_)
   all_goals exact aQ rfl rfl rfl
  ·rw[if_neg a];try repeat' (first|refine KO ?_|(refine KV (b:=by((with_reducible apply VS);exact rfl;exact rfl;decide)) (c:=?_))|refine KZ ?_|refine NB fun b=>?_)
   all_goals exact aQ rfl rfl rfl
 rw[if_neg h4];by_cases h5:t.op=5
 ·rw[if_pos h5];try repeat' (first|refine KZ ?_|refine NB fun b=>?_)
  all_goals exact aQ rfl rfl rfl
 rw[if_neg h5];by_cases v:t.op=7∨t.op=15∨t.op=16∨t.op=30∨t.op=31∨t.op=32∨t.op=33∨t.op=34∨t.op=35∨t.op=40
 ·rw[if_pos v];try repeat' (first|refine KZ ?_|refine NB fun b=>?_|(refine KB ?_ ?_<;>intro p))
  all_goals exact aQ rfl rfl rfl
 rw[if_neg v];by_cases r:t.op=8∨t.op=18∨t.op=41∨t.op=42
 ·rw[if_pos r];try repeat' (first|refine KZ ?_|refine NB fun b=>?_|(refine KB ?_ ?_<;>intro p))
  all_goals exact aQ rfl rfl rfl
 rw[if_neg r];by_cases q:t.op=9
 ·rw[if_pos q];try repeat' (first|refine KZ ?_|refine NB fun b=>?_)
  all_goals exact aQ rfl rfl rfl
 rw[if_neg q];by_cases l:t.op=10
 ·rw[if_pos l];try repeat' (first|refine KZ ?_|refine NB fun b=>?_)
  all_goals exact aQ rfl rfl rfl
 rw[if_neg l];by_cases j:t.op=11∨t.op=12
 ·rw[if_pos j];try repeat' (first|refine KZ ?_|refine NB fun b=>?_|(refine KB ?_ ?_<;>intro p))
  all_goals exact aQ rfl rfl rfl
 rw[if_neg j];by_cases i:t.op=13
 ·rw[if_pos i];try repeat' (first|refine KZ ?_|refine NB fun b=>?_)
  all_goals exact aQ rfl rfl rfl
 rw[if_neg i];by_cases h:t.op=14
 ·rw[if_pos h];try repeat' (first|refine KZ ?_|refine NB fun b=>?_)
  all_goals exact aQ rfl rfl rfl
 rw[if_neg h];by_cases g:t.op=17
 ·rw[if_pos g];try repeat' (first|refine KZ ?_|refine NB fun b=>?_)
  all_goals exact aQ rfl rfl rfl
 rw[if_neg g];by_cases f:t.op=19
 ·rw[if_pos f];try repeat' (first|refine KZ ?_|refine NB fun b=>?_)
  all_goals exact aQ rfl rfl rfl
 rw[if_neg f];by_cases e:t.op=20
 ·rw[if_pos e];try repeat' (first|refine KZ ?_|refine NB fun b=>?_)
  all_goals exact aQ rfl rfl rfl
 rw[if_neg e];try repeat' (first|refine KO ?_|refine K2 69 (fun w μc hw o=>aF3 t u w μc hw (hk.mono o)) ?_|refine KZ ?_|refine NB fun b=>?_)
 all_goals exact aQ rfl rfl rfl
end
section
open Go.RowKit Go.Vcg
noncomputable def stB (t:T):Bool:=
 if t.op=1∨t.op=6 then jL fN 0 (-1) t.kids
 else if t.op=2 then jL (ofT [3]) 1 (-1) t.kids
 else if t.op=3 then dS [(dC,0),(bT,1)] t.kids
 else if t.op=4 then dS (eK [ofT [5],xN t]) t.kids
 else if t.op=5 then dS [(eiT [dC,ofT [63]],2),(ofT [64],1)] t.kids
 else if t.op=7∨t.op=15∨t.op=16 then decide (t.kids.length=0)
 else if t.op=8∨t.op=18 then dS (eK [bT]) t.kids
 else if t.op=9 then dS [(bT,0),(fN,0),(fN,1)] t.kids
 else if t.op=10 then dS (eK [ofT [2,8,7],eiT [bT,ofT [7]],eiT [bT,ofT [7]],fN]) t.kids
 else if t.op=11∨t.op=12 then dS (eK [rR,bT,fN]) t.kids
 else if t.op=13 then dS (eK [bT,fN]) t.kids
 else if t.op=14 then dS (eK [fN,bT]) t.kids
 else if t.op=17 then jL bT 0 1 t.kids
 else if t.op=20 then dS (eK [eiT [dC,ofT [7]],ofT [6]]) t.kids
 else if t.op=21 then dS [(bT,0),(ofT [22],2)] t.kids
 else if t.op=22 then(if t.n=1 then jL fN 0 (-1) t.kids else dS [(bT,0),(fN,2)] t.kids)
 else if t.op=19 then PE t.kids
 else dS (eK [fN]) t.kids
noncomputable def exB (t:T):Bool:=
 if t.op=30∨t.op=31∨t.op=32∨t.op=33∨t.op=34∨t.op=35∨t.op=40 then decide (t.kids.length=0)
 else if t.op=36 then nR bT t.kids
 else if t.op=37 then jL (eiT [bT,ofT [40,41]]) 0 (-1) t.kids
 else if t.op=38 then jL (ofT [39]) 0 (-1) t.kids
 else if t.op=39 then rC t
 else if t.op=41∨t.op=42 then dS (eK [bT]) t.kids
 else if t.op=43 then dS (eK [hH]) t.kids
 else if t.op=44∨t.op=45∨t.op=52 then jL bT 2 2 t.kids
 else if t.op=46 then(if t.s=⟨#[61]⟩then dS (eK [dC,bT]) t.kids else dS (eK [hH,bT]) t.kids)
 else if t.op=47 then jL bT 3 3 t.kids
 else if t.op=48 then jL bT 2 (-1) t.kids
 else if t.op=49∨t.op=50 then dS [(bT,0),(GS,2)] t.kids
 else if t.op=51 then jL bT 1 1 t.kids
 else if t.op=53 then sM t.kids
 else if t.op=54 then jL bT t.n 1 t.kids
 else iA t
theorem JL(t:T)(u:Value)(w:World)(μ:Mem)(hμ:MOk μ w)(hk:KR μ t.kids u)(hs:t.size≤100000)(a:∀k∈t.kids,T.size k≤100000∧k.s.size≤65536):
 bC 80 #[.agg (cO t u).toArray] w (.bool (stB t)):=by
 unfold stB;by_cases h:t.op=1∨t.op=6
 ·rw[if_pos h];exact aMo t u w μ hμ hk hs a h
 rw[if_neg h];by_cases q:t.op=2
 ·rw[if_pos q];exact aQq t u w μ hμ hk hs a q
 rw[if_neg q];by_cases o:t.op=3
 ·rw[if_pos o];exact aMs t u w μ hμ hk hs a o
 rw[if_neg o];by_cases j:t.op=4
 ·rw[if_pos j];exact aMq t u w μ hμ hk hs a j
 rw[if_neg j];by_cases c:t.op=5
 ·rw[if_pos c];exact aFe t u w μ hμ hk hs a c
 rw[if_neg c];by_cases i:t.op=7∨t.op=15∨t.op=16
 ·rw[if_pos i];exact aMp t u w μ hμ hk hs a i
 rw[if_neg i];by_cases l:t.op=8∨t.op=18
 ·rw[if_pos l];exact aMr t u w μ hμ hk hs a l
 rw[if_neg l];by_cases y:t.op=9
 ·rw[if_pos y];exact aTn t u w μ hμ hk hs a y
 rw[if_neg y];by_cases x:t.op=10
 ·rw[if_pos x];exact aQt t u w μ hμ hk hs a x
 rw[if_neg x];by_cases f:t.op=11∨t.op=12
 ·rw[if_pos f];exact aH6 t u w μ hμ hk hs a f
 rw[if_neg f];by_cases e:t.op=13
 ·rw[if_pos e];exact aH5 t u w μ hμ hk hs a e
 rw[if_neg e];by_cases z:t.op=14
 ·rw[if_pos z];exact aTo t u w μ hμ hk hs a z
 rw[if_neg z];by_cases v:t.op=17
 ·rw[if_pos v];exact aQs t u w μ hμ hk hs a v
 rw[if_neg v];by_cases g:t.op=20
 ·rw[if_pos g];exact aH7 t u w μ hμ hk hs a g
 rw[if_neg g];by_cases b:t.op=21
 ·rw[if_pos b];exact aFd t u w μ hμ hk hs a b
 rw[if_neg b];by_cases p:t.op=22
 ·rw[if_pos p];exact aMt t u w μ hμ hk hs a p
 rw[if_neg p];by_cases r:t.op=19
 ·rw[if_pos r];exact aQr t u w μ hμ hk hs a r
 rw[if_neg r];exact aMn t u w μ hμ hk hs a (by omega)
theorem HY(t:T)(u:Value)(w:World)(μ:Mem)(hμ:MOk μ w)(hk:KR μ t.kids u)(hs:t.size≤100000)(b:∀k∈t.kids,T.size k≤100000∧k.s.size≤65536)(z:∀k∈t.kids,Sh' k):
 bC 79 #[.agg (cO t u).toArray] w (.bool (exB t)):=by
 unfold exB;by_cases o:t.op=30∨t.op=31∨t.op=32∨t.op=33∨t.op=34∨t.op=35∨t.op=40
 ·rw[if_pos o];exact aOr t u w μ hμ hk hs b o
 rw[if_neg o];by_cases j:t.op=36
 ·rw[if_pos j];exact aOo t u w μ hμ hk hs b j
 rw[if_neg j];by_cases i:t.op=37
 ·rw[if_pos i];exact aK4 t u w μ hμ hk hs b i
 rw[if_neg i];by_cases f:t.op=38
 ·rw[if_pos f];exact aG8 t u w μ hμ hk hs b f
 rw[if_neg f];by_cases l:t.op=39
 ·rw[if_pos l];exact aOq t u w μ hμ hk hs b l
 rw[if_neg l];by_cases e:t.op=41∨t.op=42
 ·rw[if_pos e];exact aG7 t u w μ hμ hk hs b e
 rw[if_neg e];by_cases c:t.op=43
 ·rw[if_pos c];exact aG6 t u w μ hμ hk hs b c
 rw[if_neg c];by_cases x:t.op=44∨t.op=45∨t.op=52
 ·rw[if_pos x];exact aSm t u w μ hμ hk hs b x
 rw[if_neg x];by_cases a:t.op=46
 ·rw[if_pos a];by_cases y:t.s=⟨#[61]⟩
  ·rw[if_pos y];exact aCa t u w μ hμ hk hs b a y
  ·rw[if_neg y];exact aCb t u w μ hμ hk hs b a y
 rw[if_neg a];by_cases p:t.op=47
 ·rw[if_pos p];exact aOs t u w μ hμ hk hs b p
 rw[if_neg p];by_cases r:t.op=48
 ·rw[if_pos r];exact aSk t u w μ hμ hk hs b r
 rw[if_neg r];by_cases q:t.op=49∨t.op=50
 ·rw[if_pos q];exact aOt t u w μ hμ hk hs b q
 rw[if_neg q];by_cases v:t.op=51
 ·rw[if_pos v];exact aSl t u w μ hμ hk hs b v
 rw[if_neg v];by_cases h:t.op=53
 ·rw[if_pos h];exact aK3 t u w μ hμ hk hs b h z
 rw[if_neg h];by_cases g:t.op=54
 ·rw[if_pos g];exact aK1 t u w μ hμ hk hs b g
 rw[if_neg g];exact aOp t u w μ hμ hk hs b (by omega)
end
end Go.Proofs.YtlllalmkkaolfaaGreatDoor
