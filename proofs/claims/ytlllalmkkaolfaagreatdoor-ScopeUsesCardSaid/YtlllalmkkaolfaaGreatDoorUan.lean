/- tree.Right. -/
import Derived.Test.YtlllalmkkaolfaaGreatDoorUam
set_option maxRecDepth 20000
set_option maxHeartbeats 2000000
namespace Go.Proofs.YtlllalmkkaolfaaGreatDoor
section
open Go.RowKit Go.Vcg
noncomputable def bD (t:T):Bool:=if t.op≤23 then stB t else exB t
def onT(t:T)(i:Nat)(k:T)(spine:Bool):Bool:=decide (i=0)&&iC k&&(decide (t.op=53)||spine&&iC t)
def Nd(t:T)(spine:Bool):Prop:=tP t.op=true∧nV t=true∧¬(iC t=true∧t.n=1∧spine=false)
inductive Rt:T→Nat→Bool→Prop
 |mk {t:T} {deep:Nat} {spine:Bool} (hd:deep≤200) (hn:Nd t spine) (hk:bD t=true) (hr:∀(i:Nat) (k:T),t.kids[i]? =some k→Rt k (deep+1) (onT t i k spine)):Rt t deep spine
noncomputable def rtB (t:T) (deep:Nat) (spine:Bool):Bool:=dB (Rt t deep spine)
theorem aDk{t:T}{d:Nat}{s:Bool}(h:Rt t d s):rtB t d s=true:=by unfold rtB;exact aLk h
theorem uP{t:T}{d:Nat}{s:Bool}(h:¬Rt t d s):rtB t d s=false:=by unfold rtB;exact aLl h
theorem iL{t:T}{d:Nat}{s:Bool}(h:rtB t d s=true):Rt t d s:=by unfold rtB at h;exact CD h
theorem mN{t:T}{d:Nat}{s:Bool}(h:rtB t d s=false):¬Rt t d s:=by unfold rtB at h;exact ZS h
theorem wE{t k:T}(h:Sh t)(hk:k∈t.kids):Sh k:=by
 cases h with
 |mk _ _ _ _ h=>exact h k hk
theorem aPo{t:T}(h:Sh t):lO t.op:=by cases h;assumption
theorem PG{t:T}(h:Sh t):t.s.size≤4000:=by cases h;assumption
theorem aIc:∀{t:T},Sh t→Sh' t:=fun{t}=>T.aBy (p:=fun t=>Sh t→Sh' t) (fun t ih h=>.mk (by have:=PG h;omega) fun k hk=>ih k hk (wE h hk)) t
attribute [local irreducible] tP nV stB exB rtB G GC GQ GA eV Calls IntKind.wrap Int.decLt Int.decLe
theorem aA2:∀(n:Nat),n≤100000→∀(t:T) (u:Value) (deep:Nat) (spine:Bool) (w:World) (μ:Mem),MOk μ w→KR μ t.kids u→t.size≤n→deep≤201→Sh t→sO μ→
 bC 61 #[.agg (cO t u).toArray,.int .i64 deep,.bool spine] w (.bool (rtB t deep spine)):=by
 intro n;induction n with
 |zero=>intro _ t u d s w μ hμ hk hn;exact absurd hn (by rw[T.size_eq];omega)
 | succ n ih=>
   intro ax t u deep spine w μ hμ hk hn az af hT;have ho:=hk.one;have aq:=aPo af;unfold lO at aq;have aw:=PG af;have ao:∀k∈t.kids,T.size k≤100000∧k.s.size≤65536:=fun k hk=>by obtain⟨i,hi⟩:=List.mem_iff_getElem?.1 hk;have h1:=T.fY hi;have h2:=PG (wE af hk);exact⟨by omega,by omega⟩
   have al:∀k∈t.kids,Sh' k:=fun k hk=>aIc (wE af hk);have hlen:=eT t;obtain⟨A,c,rfl,ay,ai⟩:=hk.form;have c1:=fun w μc hw (hle:MLe μ μc)=>aBt t.op aq w μc hw (hT.mono hle);have c2:=fun w μc hw (hle:MLe μ μc)=>UU t _ w μc hw (hk.mono hle) (by omega) (by omega) (hT.mono hle);have c3:=fun w μc hw (hle:MLe μ μc)=>xA t _ w μc hw (hk.mono hle) (by omega) (by omega);have c4:=fun w μc hw (hle:MLe μ μc)=>JL t _ w μc hw (hk.mono hle) (by omega) ao;have c5:=fun w μc hw (hle:MLe μ μc)=>HY t _ w μc hw (hk.mono hle) (by omega) ao al;refine aF Tryz.func61 rfl Tryz.ntmps61 (by simp) hμ ?_;by_cases h1:deep≤200∧Nd t spine
   ·obtain⟨hd,an⟩:=h1;obtain⟨av,hf,hl⟩:=id an;rw[av]at c1;rw[hf]at c2;cases aa:bD t
    ·have y:rtB t deep spine=false:=uP fun h=>by
      cases h with
      |mk _ _ h2 _=>rw[aa]at h2;cases h2
     rw[y];unfold bD at aa;try repeat' (first|((with_reducible show GC _ _ (Code.seq (Code.region 3 _ _) _) _ _ _ _);(apply dX))|refine KO ?_|refine K2 76 c1 ?_|refine K2 77 c2 ?_|refine K2 78 c3 ?_|refine KZ ?_|refine NB fun b=>?_|(refine KB ?_ ?_<;>intro hp))
     all_goals try(exfalso;apply hl;refine⟨?_,?_,?_⟩<;>assumption)
     all_goals
      refine gcs ?_;by_cases ak:t.op≤23
      ·rw[if_pos ak]at aa;rw[aa]at c4;try repeat' (first|refine KZ ?_|((with_reducible apply C1);exact rfl;exact EN;exact fun w μc hw g=>c4 w μc hw g.le))
       all_goals exact aQ rfl rfl rfl
      ·rw[if_neg ak]at aa;rw[aa]at c5;try repeat' (first|refine KZ ?_|((with_reducible apply C1);exact rfl;exact EN;exact fun w μc hw g=>c5 w μc hw g.le))
       all_goals exact aQ rfl rfl rfl
    ·have ae:=aa;unfold bD at ae;try repeat' (first|((with_reducible show GC _ _ (Code.seq (Code.seq (Code.region 1 _ _) _) _) _ _ _ _);(apply dX))|refine KZ ?_|refine NB fun b=>?_)
     refine gcs (iT (ι:=Unit) (fun _=>True) (fun _=>μ) (fun _=>[(1,.int .i64 deep),(2,.bool spine),(3,.pointer (some ⟨b,0,none⟩))]) (fun _=>[.inl ⟨b,24,6,idx 0 (cO t (.slice A t.kids.length c))⟩]) ?_ ?_)
     ·try repeat' (first|refine KO ?_|refine K2 76 c1 ?_|refine K2 77 c2 ?_|refine K2 78 c3 ?_|refine KZ ?_|(refine KB ?_ ?_<;>intro hp))
      all_goals try(exfalso;apply hl;refine⟨?_,?_,?_⟩<;>assumption)
      all_goals exact J1 () trivial
     intro _ _;by_cases ak:t.op≤23
     ·rw [if_pos ak]at ae;rw[ae]at c4;try repeat' (first|refine KZ ?_|((with_reducible apply C1);exact rfl;exact EN;exact fun w μc hw g=>c4 w μc hw g.le))
      all_goals try(exfalso;omega)
      refine cD (ι:=Nat) (fun i=>i≤t.kids.length∧∀(j:Nat) (k:T),j<i→t.kids[j]? =some k→Rt k (deep+1) (onT t j k spine)) (fun i=>t.kids.length-i) (fun _=>μ) (fun i=>[(47,.int .i64 i),(46,.int .i64 t.kids.length),(45,.slice A t.kids.length c),(1,.int .i64 deep),(2,.bool spine),(3,.pointer (some ⟨b,0,none⟩))]) (fun _=>[.inl ⟨b,24,6,idx 0 (cO t (.slice A t.kids.length c))⟩]) 0 ⟨by omega,fun j _ h=>absurd h (by omega)⟩ (fun a w hs=>J5 hs) ?_;rintro i ⟨hi,ah⟩;by_cases hlt:i<t.kids.length
      ·have r:t.kids[i]? =some t.kids[i]:=aA hlt;generalize t.kids[i]=k at r;obtain⟨ad,x,rfl,hm,au,p⟩:=ai i k r;have ar:=T.fY r;have f:=wE af (aB r);have ap:=PG f;have ck:=fun w μc hw (hle:MLe μ μc)=>xA k _ w μc hw (p.mono hle) (by omega) (by omega);have o:Rt k (deep+1) (onT t i k spine)→∀(j:Nat) (k:T),j<i+1→t.kids[j]? =some k→Rt k (deep+1) (onT t j k spine):=fun h j k' hj ag=>by
        rcases dL j i with h1|h1
        ·exact ah j k' h1 ag
        ·obtain rfl:j=i:=by omega
         rw[r]at ag;cases ag;exact h
       by_cases aj:i=0
       ·subst aj;cases v:iC k
        ·rw[v]at ck;have l:onT t 0 k spine=false:=by simp[onT,v]
         cases hq:rtB k (deep+1) false
         ·have y:rtB t deep spine=false:=uP fun h=>mN hq (by cases h with|mk _ _ _ h4=>exact l▸h4 0 k r);rw[y];have e:=fun(w:World) (μc:Mem) (hw:MOk μc w) (hle:MLe μ μc)=>hq▸ih (by omega) k x (deep+1) false w μc hw (p.mono hle) (by omega) (by omega) f (hT.mono hle);try repeat' (first|refine KO ?_|refine K2 78 ck ?_|refine K2 61 e ?_|(refine KV (b:=by first|exact U1 0|exact U4 hm) (c:=?_))|refine KZ ?_|refine NB fun b=>?_)
          all_goals exact aQ rfl rfl rfl
         ·have q:=o (by rw[l];exact iL hq);have e:=fun(w:World) (μc:Mem) (hw:MOk μc w) (hle:MLe μ μc)=>hq▸ih (by omega) k x (deep+1) false w μc hw (p.mono hle) (by omega) (by omega) f (hT.mono hle);try repeat' (first|refine KO ?_|refine K2 78 ck ?_|refine K2 61 e ?_|(refine KV (b:=by first|exact U1 0|exact U4 hm) (c:=?_))|refine KZ ?_|refine NB fun b=>?_)
          all_goals exact J2 (0+1) ⟨by omega,q⟩ (by omega)
        ·rw [v]at ck;by_cases ab:t.op=53
         ·have l:onT t 0 k spine=true:=by simp[onT,v,ab]
          cases hq:rtB k (deep+1) true
          ·have y:rtB t deep spine=false:=uP fun h=>mN hq (by cases h with|mk _ _ _ h4=>exact l▸h4 0 k r);rw[y];have e:=fun(w:World) (μc:Mem) (hw:MOk μc w) (hle:MLe μ μc)=>hq▸ih (by omega) k x (deep+1) true w μc hw (p.mono hle) (by omega) (by omega) f (hT.mono hle);try repeat' (first|refine KO ?_|refine K2 78 ck ?_|refine K2 61 e ?_|(refine KV (b:=by first|exact U1 0|exact U4 hm) (c:=?_))|refine KZ ?_|refine NB fun b=>?_)
           all_goals exact aQ rfl rfl rfl
          ·have q:=o (by rw[l];exact iL hq);have e:=fun(w:World) (μc:Mem) (hw:MOk μc w) (hle:MLe μ μc)=>hq▸ih (by omega) k x (deep+1) true w μc hw (p.mono hle) (by omega) (by omega) f (hT.mono hle);try repeat' (first|refine KO ?_|refine K2 78 ck ?_|refine K2 61 e ?_|(refine KV (b:=by first|exact U1 0|exact U4 hm) (c:=?_))|refine KZ ?_|refine NB fun b=>?_)
           all_goals exact J2 (0+1) ⟨by omega,q⟩ (by omega)
         ·cases spine
          ·skip
           have l:onT t 0 k false=false:=by simp[onT,v,ab]
           cases hq:rtB k (deep+1) false
           ·have y:rtB t deep false=false:=uP fun h=>mN hq (by cases h with|mk _ _ _ h4=>exact l▸h4 0 k r);rw[y];have e:=fun(w:World) (μc:Mem) (hw:MOk μc w) (hle:MLe μ μc)=>hq▸ih (by omega) k x (deep+1) false w μc hw (p.mono hle) (by omega) (by omega) f (hT.mono hle);try repeat' (first|refine KO ?_|refine K2 78 ck ?_|refine K2 61 e ?_|(refine KV (b:=by first|exact U1 0|exact U4 hm) (c:=?_))|refine KZ ?_|refine NB fun b=>?_)
            all_goals exact aQ rfl rfl rfl
           ·have q:=o (by rw[l];exact iL hq);have e:=fun(w:World) (μc:Mem) (hw:MOk μc w) (hle:MLe μ μc)=>hq▸ih (by omega) k x (deep+1) false w μc hw (p.mono hle) (by omega) (by omega) f (hT.mono hle);try repeat' (first|refine KO ?_|refine K2 78 ck ?_|refine K2 61 e ?_|(refine KV (b:=by first|exact U1 0|exact U4 hm) (c:=?_))|refine KZ ?_|refine NB fun b=>?_)
            all_goals exact J2 (0+1) ⟨by omega,q⟩ (by omega)
          ·cases z:iC t
           ·rw[z]at c3;have l:onT t 0 k true=false:=by simp[onT,v,ab,z]
            cases hq:rtB k (deep+1) false
            ·have y:rtB t deep true=false:=uP fun h=>mN hq (by cases h with|mk _ _ _ h4=>exact l▸h4 0 k r);rw[y];have e:=fun(w:World) (μc:Mem) (hw:MOk μc w) (hle:MLe μ μc)=>hq▸ih (by omega) k x (deep+1) false w μc hw (p.mono hle) (by omega) (by omega) f (hT.mono hle);try repeat' (first|refine KO ?_|((with_reducible apply F1 78);exact rfl;exact EN;first|(exact fun w μc hw g=>ck w μc hw g.le)|(exact fun w μc hw g=>c3 w μc hw g.le))|refine K2 61 e ?_|(refine KV (b:=by first|exact U1 0|exact U4 hm) (c:=?_))|refine KZ ?_|refine NB fun b=>?_)
             all_goals exact aQ rfl rfl rfl
            ·have q:=o (by rw[l];exact iL hq);have e:=fun(w:World) (μc:Mem) (hw:MOk μc w) (hle:MLe μ μc)=>hq▸ih (by omega) k x (deep+1) false w μc hw (p.mono hle) (by omega) (by omega) f (hT.mono hle);try repeat' (first|refine KO ?_|((with_reducible apply F1 78);exact rfl;exact EN;first|(exact fun w μc hw g=>ck w μc hw g.le)|(exact fun w μc hw g=>c3 w μc hw g.le))|refine K2 61 e ?_|(refine KV (b:=by first|exact U1 0|exact U4 hm) (c:=?_))|refine KZ ?_|refine NB fun b=>?_)
             all_goals exact J2 (0+1) ⟨by omega,q⟩ (by omega)
           ·rw[z]at c3;have l:onT t 0 k true=true:=by simp[onT,v,ab,z]
            cases hq:rtB k (deep+1) true
            ·have y:rtB t deep true=false:=uP fun h=>mN hq (by cases h with|mk _ _ _ h4=>exact l▸h4 0 k r);rw[y];have e:=fun(w:World) (μc:Mem) (hw:MOk μc w) (hle:MLe μ μc)=>hq▸ih (by omega) k x (deep+1) true w μc hw (p.mono hle) (by omega) (by omega) f (hT.mono hle);try repeat' (first|refine KO ?_|((with_reducible apply F1 78);exact rfl;exact EN;first|(exact fun w μc hw g=>ck w μc hw g.le)|(exact fun w μc hw g=>c3 w μc hw g.le))|refine K2 61 e ?_|(refine KV (b:=by first|exact U1 0|exact U4 hm) (c:=?_))|refine KZ ?_|refine NB fun b=>?_)
             all_goals exact aQ rfl rfl rfl
            ·have q:=o (by rw[l];exact iL hq);have e:=fun(w:World) (μc:Mem) (hw:MOk μc w) (hle:MLe μ μc)=>hq▸ih (by omega) k x (deep+1) true w μc hw (p.mono hle) (by omega) (by omega) f (hT.mono hle);try repeat' (first|refine KO ?_|((with_reducible apply F1 78);exact rfl;exact EN;first|(exact fun w μc hw g=>ck w μc hw g.le)|(exact fun w μc hw g=>c3 w μc hw g.le))|refine K2 61 e ?_|(refine KV (b:=by first|exact U1 0|exact U4 hm) (c:=?_))|refine KZ ?_|refine NB fun b=>?_)
             all_goals exact J2 (0+1) ⟨by omega,q⟩ (by omega)
       ·skip
        have l:onT t i k spine=false:=by simp[onT,aj]
        cases hq:rtB k (deep+1) false
        ·have y:rtB t deep spine=false:=uP fun h=>mN hq (by cases h with|mk _ _ _ h4=>exact l▸h4 i k r);rw[y];have e:=fun(w:World) (μc:Mem) (hw:MOk μc w) (hle:MLe μ μc)=>hq▸ih (by omega) k x (deep+1) false w μc hw (p.mono hle) (by omega) (by omega) f (hT.mono hle);try repeat' (first|refine KO ?_|refine K2 61 e ?_|(refine KV (b:=by first|exact U1 i|exact U4 hm) (c:=?_))|refine KZ ?_|refine NB fun b=>?_)
         all_goals exact aQ rfl rfl rfl
        ·have q:=o (by rw[l];exact iL hq);have e:=fun(w:World) (μc:Mem) (hw:MOk μc w) (hle:MLe μ μc)=>hq▸ih (by omega) k x (deep+1) false w μc hw (p.mono hle) (by omega) (by omega) f (hT.mono hle);try repeat' (first|refine KO ?_|refine K2 61 e ?_|(refine KV (b:=by first|exact U1 i|exact U4 hm) (c:=?_))|refine KZ ?_|refine NB fun b=>?_)
         all_goals exact J2 (i+1) ⟨by omega,q⟩ (by omega)
      ·have y:rtB t deep spine=true:=aDk (.mk hd an aa fun j k hj=>ah j k (by have:=(List.getElem?_eq_some_iff.1 hj).1;omega) hj);rw[y];try repeat' (refine KZ ?_)
       all_goals exact aQ rfl rfl rfl
     ·rw [if_neg ak]at ae;rw[ae]at c5;try repeat' (first|refine KZ ?_|((with_reducible apply C1);exact rfl;exact EN;exact fun w μc hw g=>c5 w μc hw g.le))
      all_goals try(exfalso;omega)
      refine cD (ι:=Nat) (fun i=>i≤t.kids.length∧∀(j:Nat) (k:T),j<i→t.kids[j]? =some k→Rt k (deep+1) (onT t j k spine)) (fun i=>t.kids.length-i) (fun _=>μ) (fun i=>[(47,.int .i64 i),(46,.int .i64 t.kids.length),(45,.slice A t.kids.length c),(1,.int .i64 deep),(2,.bool spine),(3,.pointer (some ⟨b,0,none⟩))]) (fun _=>[.inl ⟨b,24,6,idx 0 (cO t (.slice A t.kids.length c))⟩]) 0 ⟨by omega,fun j _ h=>absurd h (by omega)⟩ (fun a w hs=>J5 hs) ?_;rintro i ⟨hi,ah⟩;by_cases hlt:i<t.kids.length
      ·have r:t.kids[i]? =some t.kids[i]:=aA hlt;generalize t.kids[i]=k at r;obtain⟨ad,x,rfl,hm,au,p⟩:=ai i k r;have ar:=T.fY r;have f:=wE af (aB r);have ap:=PG f;have ck:=fun w μc hw (hle:MLe μ μc)=>xA k _ w μc hw (p.mono hle) (by omega) (by omega);have o:Rt k (deep+1) (onT t i k spine)→∀(j:Nat) (k:T),j<i+1→t.kids[j]? =some k→Rt k (deep+1) (onT t j k spine):=fun h j k' hj ag=>by
        rcases dL j i with h1|h1
        ·exact ah j k' h1 ag
        ·obtain rfl:j=i:=by omega
         rw[r]at ag;cases ag;exact h
       by_cases aj:i=0
       ·subst aj;cases v:iC k
        ·rw[v]at ck;have l:onT t 0 k spine=false:=by simp[onT,v]
         cases hq:rtB k (deep+1) false
         ·have y:rtB t deep spine=false:=uP fun h=>mN hq (by cases h with|mk _ _ _ h4=>exact l▸h4 0 k r);rw[y];have e:=fun(w:World) (μc:Mem) (hw:MOk μc w) (hle:MLe μ μc)=>hq▸ih (by omega) k x (deep+1) false w μc hw (p.mono hle) (by omega) (by omega) f (hT.mono hle);try repeat' (first|refine KO ?_|refine K2 78 ck ?_|refine K2 61 e ?_|(refine KV (b:=by first|exact U1 0|exact U4 hm) (c:=?_))|refine KZ ?_|refine NB fun b=>?_)
          all_goals exact aQ rfl rfl rfl
         ·have q:=o (by rw[l];exact iL hq);have e:=fun(w:World) (μc:Mem) (hw:MOk μc w) (hle:MLe μ μc)=>hq▸ih (by omega) k x (deep+1) false w μc hw (p.mono hle) (by omega) (by omega) f (hT.mono hle);try repeat' (first|refine KO ?_|refine K2 78 ck ?_|refine K2 61 e ?_|(refine KV (b:=by first|exact U1 0|exact U4 hm) (c:=?_))|refine KZ ?_|refine NB fun b=>?_)
          all_goals exact J2 (0+1) ⟨by omega,q⟩ (by omega)
        ·rw [v]at ck;by_cases ab:t.op=53
         ·have l:onT t 0 k spine=true:=by simp[onT,v,ab]
          cases hq:rtB k (deep+1) true
          ·have y:rtB t deep spine=false:=uP fun h=>mN hq (by cases h with|mk _ _ _ h4=>exact l▸h4 0 k r);rw[y];have e:=fun(w:World) (μc:Mem) (hw:MOk μc w) (hle:MLe μ μc)=>hq▸ih (by omega) k x (deep+1) true w μc hw (p.mono hle) (by omega) (by omega) f (hT.mono hle);try repeat' (first|refine KO ?_|refine K2 78 ck ?_|refine K2 61 e ?_|(refine KV (b:=by first|exact U1 0|exact U4 hm) (c:=?_))|refine KZ ?_|refine NB fun b=>?_)
           all_goals exact aQ rfl rfl rfl
          ·have q:=o (by rw[l];exact iL hq);have e:=fun(w:World) (μc:Mem) (hw:MOk μc w) (hle:MLe μ μc)=>hq▸ih (by omega) k x (deep+1) true w μc hw (p.mono hle) (by omega) (by omega) f (hT.mono hle);try repeat' (first|refine KO ?_|refine K2 78 ck ?_|refine K2 61 e ?_|(refine KV (b:=by first|exact U1 0|exact U4 hm) (c:=?_))|refine KZ ?_|refine NB fun b=>?_)
           all_goals exact J2 (0+1) ⟨by omega,q⟩ (by omega)
         ·cases spine
          ·skip
           have l:onT t 0 k false=false:=by simp[onT,v,ab]
           cases hq:rtB k (deep+1) false
           ·have y:rtB t deep false=false:=uP fun h=>mN hq (by cases h with|mk _ _ _ h4=>exact l▸h4 0 k r);rw[y];have e:=fun(w:World) (μc:Mem) (hw:MOk μc w) (hle:MLe μ μc)=>hq▸ih (by omega) k x (deep+1) false w μc hw (p.mono hle) (by omega) (by omega) f (hT.mono hle);try repeat' (first|refine KO ?_|refine K2 78 ck ?_|refine K2 61 e ?_|(refine KV (b:=by first|exact U1 0|exact U4 hm) (c:=?_))|refine KZ ?_|refine NB fun b=>?_)
            all_goals exact aQ rfl rfl rfl
           ·have q:=o (by rw[l];exact iL hq);have e:=fun(w:World) (μc:Mem) (hw:MOk μc w) (hle:MLe μ μc)=>hq▸ih (by omega) k x (deep+1) false w μc hw (p.mono hle) (by omega) (by omega) f (hT.mono hle);try repeat' (first|refine KO ?_|refine K2 78 ck ?_|refine K2 61 e ?_|(refine KV (b:=by first|exact U1 0|exact U4 hm) (c:=?_))|refine KZ ?_|refine NB fun b=>?_)
            all_goals exact J2 (0+1) ⟨by omega,q⟩ (by omega)
          ·cases z:iC t
           ·rw[z]at c3;have l:onT t 0 k true=false:=by simp[onT,v,ab,z]
            cases hq:rtB k (deep+1) false
            ·have y:rtB t deep true=false:=uP fun h=>mN hq (by cases h with|mk _ _ _ h4=>exact l▸h4 0 k r);rw[y];have e:=fun(w:World) (μc:Mem) (hw:MOk μc w) (hle:MLe μ μc)=>hq▸ih (by omega) k x (deep+1) false w μc hw (p.mono hle) (by omega) (by omega) f (hT.mono hle);try repeat' (first|refine KO ?_|((with_reducible apply F1 78);exact rfl;exact EN;first|(exact fun w μc hw g=>ck w μc hw g.le)|(exact fun w μc hw g=>c3 w μc hw g.le))|refine K2 61 e ?_|(refine KV (b:=by first|exact U1 0|exact U4 hm) (c:=?_))|refine KZ ?_|refine NB fun b=>?_)
             all_goals exact aQ rfl rfl rfl
            ·have q:=o (by rw[l];exact iL hq);have e:=fun(w:World) (μc:Mem) (hw:MOk μc w) (hle:MLe μ μc)=>hq▸ih (by omega) k x (deep+1) false w μc hw (p.mono hle) (by omega) (by omega) f (hT.mono hle);try repeat' (first|refine KO ?_|((with_reducible apply F1 78);exact rfl;exact EN;first|(exact fun w μc hw g=>ck w μc hw g.le)|(exact fun w μc hw g=>c3 w μc hw g.le))|refine K2 61 e ?_|(refine KV (b:=by first|exact U1 0|exact U4 hm) (c:=?_))|refine KZ ?_|refine NB fun b=>?_)
             all_goals exact J2 (0+1) ⟨by omega,q⟩ (by omega)
           ·rw[z]at c3;have l:onT t 0 k true=true:=by simp[onT,v,ab,z]
            cases hq:rtB k (deep+1) true
            ·have y:rtB t deep true=false:=uP fun h=>mN hq (by cases h with|mk _ _ _ h4=>exact l▸h4 0 k r);rw[y];have e:=fun(w:World) (μc:Mem) (hw:MOk μc w) (hle:MLe μ μc)=>hq▸ih (by omega) k x (deep+1) true w μc hw (p.mono hle) (by omega) (by omega) f (hT.mono hle);try repeat' (first|refine KO ?_|((with_reducible apply F1 78);exact rfl;exact EN;first|(exact fun w μc hw g=>ck w μc hw g.le)|(exact fun w μc hw g=>c3 w μc hw g.le))|refine K2 61 e ?_|(refine KV (b:=by first|exact U1 0|exact U4 hm) (c:=?_))|refine KZ ?_|refine NB fun b=>?_)
             all_goals exact aQ rfl rfl rfl
            ·have q:=o (by rw[l];exact iL hq);have e:=fun(w:World) (μc:Mem) (hw:MOk μc w) (hle:MLe μ μc)=>hq▸ih (by omega) k x (deep+1) true w μc hw (p.mono hle) (by omega) (by omega) f (hT.mono hle);try repeat' (first|refine KO ?_|((with_reducible apply F1 78);exact rfl;exact EN;first|(exact fun w μc hw g=>ck w μc hw g.le)|(exact fun w μc hw g=>c3 w μc hw g.le))|refine K2 61 e ?_|(refine KV (b:=by first|exact U1 0|exact U4 hm) (c:=?_))|refine KZ ?_|refine NB fun b=>?_)
             all_goals exact J2 (0+1) ⟨by omega,q⟩ (by omega)
       ·skip
        have l:onT t i k spine=false:=by simp[onT,aj]
        cases hq:rtB k (deep+1) false
        ·have y:rtB t deep spine=false:=uP fun h=>mN hq (by cases h with|mk _ _ _ h4=>exact l▸h4 i k r);rw[y];have e:=fun(w:World) (μc:Mem) (hw:MOk μc w) (hle:MLe μ μc)=>hq▸ih (by omega) k x (deep+1) false w μc hw (p.mono hle) (by omega) (by omega) f (hT.mono hle);try repeat' (first|refine KO ?_|refine K2 61 e ?_|(refine KV (b:=by first|exact U1 i|exact U4 hm) (c:=?_))|refine KZ ?_|refine NB fun b=>?_)
         all_goals exact aQ rfl rfl rfl
        ·have q:=o (by rw[l];exact iL hq);have e:=fun(w:World) (μc:Mem) (hw:MOk μc w) (hle:MLe μ μc)=>hq▸ih (by omega) k x (deep+1) false w μc hw (p.mono hle) (by omega) (by omega) f (hT.mono hle);try repeat' (first|refine KO ?_|refine K2 61 e ?_|(refine KV (b:=by first|exact U1 i|exact U4 hm) (c:=?_))|refine KZ ?_|refine NB fun b=>?_)
         all_goals exact J2 (i+1) ⟨by omega,q⟩ (by omega)
      ·have y:rtB t deep spine=true:=aDk (.mk hd an aa fun j k hj=>ah j k (by have:=(List.getElem?_eq_some_iff.1 hj).1;omega) hj);rw[y];try repeat' (refine KZ ?_)
       all_goals exact aQ rfl rfl rfl
   ·have y:rtB t deep spine=false:=uP fun h=>by
     cases h with
     |mk h2 h3 _ _=>exact h1 ⟨h2,h3⟩
    rw[y];unfold Nd at h1;try repeat' (first|((with_reducible show GC _ _ (Code.seq (Code.region 3 _ _) _) _ _ _ _);(apply dX))|refine KO ?_|refine K2 76 c1 ?_|refine K2 77 c2 ?_|refine K2 78 c3 ?_|refine KZ ?_|refine NB fun b=>?_|(refine KB ?_ ?_<;>intro hp))
    all_goals first|exact aQ rfl rfl rfl|(exfalso;clear c1 c2 c3 c4 c5 hk ai hμ hT ao al af ih;simp_all;omega)
end
section
open Go.RowKit Go.Vcg
def OkF(t:T):Prop:=t.op=4→0≤t.n∧t.n≤255
def chk(f:Int→Bool):Bool:=(List.range 256).all fun k=>f (k:Int)
theorem aSt{f:Int→Bool}(h:chk f=true){n:Int}(h0:0≤n)(h1:n≤255):f n=true:=by
 obtain⟨k,rfl⟩:=lD h0;exact eJ.1 h k (List.mem_range.2 (by omega))
def vL(n m:Int):Bool:=decide (aPa n m≠0)
def aMz(n m:Int):Bool:=decide ((IntKind.i64.wrap (n.tdiv m)).tmod 2=1)
def aUy(n:Int):Bool:=([1,2,4,8,16,32,128]:List Int).all (fun m=>vL n m==aMz n m)&&((vL n 57==(vL n 1||vL n 8||vL n 16||vL n 32))&&(vL n 50==(vL n 2||vL n 16||vL n 32)))
theorem aO5:chk aUy=true:=by decide+kernel
theorem sU{t:T}{m:Int}(h4:t.op=4):gL t m=vL t.n m:=by unfold gL vL;rw[decide_eq_true h4,bR]
theorem aEv{t:T}{m:Int}(h4:t.op=4)(h0:0≤t.n):fX t m=aMz t.n m:=by unfold fX aMz;rw[decide_eq_true h4,decide_eq_true h0,bR,bR]
theorem VH{n:Int}(h0:0≤n)(h1:n≤255):(∀m∈([1,2,4,8,16,32,128]:List Int),vL n m=aMz n m)∧vL n 57=(vL n 1||vL n 8||vL n 16||vL n 32)∧vL n 50=(vL n 2||vL n 16||vL n 32):=by
 have h:=aSt aO5 h0 h1;unfold aUy at h;rw[aM,aM,eJ]at h;exact⟨fun m hm=>eq_of_beq (h.1 m hm),eq_of_beq h.2.1,eq_of_beq h.2.2⟩
theorem mT{t:T}(h:OkF t){m:Int}(hm:m∈([1,2,4,8,16,32,128]:List Int)):gL t m=fX t m:=by
 by_cases h4:t.op=4
 ·obtain⟨h0,h1⟩:=h h4;rw[sU h4,aEv h4 h0];exact(VH h0 h1).1 m hm
 ·unfold gL fX;rw[decide_eq_false h4,dV,dV,dV]
theorem aUg{t:T}(h:OkF t):gL t 57=(fX t 1||fX t 8||fX t 16||fX t 32):=by
 rw[←mT h (by simp),←mT h (by simp),←mT h (by simp),←mT h (by simp)];by_cases h4:t.op=4
 ·obtain⟨h0,h1⟩:=h h4;rw[sU h4,sU h4,sU h4,sU h4,sU h4];exact(VH h0 h1).2.1
 ·unfold gL;rw[decide_eq_false h4];rfl
theorem aUh{t:T}(h:OkF t):gL t 50=(fX t 2||fX t 16||fX t 32):=by
 rw[←mT h (by simp),←mT h (by simp),←mT h (by simp)];by_cases h4:t.op=4
 ·obtain⟨h0,h1⟩:=h h4;rw[sU h4,sU h4,sU h4,sU h4];exact(VH h0 h1).2.2
 ·unfold gL;rw[decide_eq_false h4];rfl
attribute [local irreducible] gL fX
theorem aSz{t:T}{m:Int}(h4:¬t.op=4):fX t m=false:=by
 unfold fX;rw[decide_eq_false h4,dV,dV]
theorem aMl{t:T}(h:OkF t):fN t=xU t:=by
 unfold fN xU;by_cases h4:t.op=4
 ·rw[if_pos h4,mT h (by simp),h4];simp
 ·rw[if_neg h4,aSz h4];cases decide (t.op=2)<;>cases decide (t.op=21)<;>cases decide (t.op=23)<;>cases decide (6≤t.op)<;>cases decide (t.op≤19)<;>rfl
theorem GJ{t:T}(h:OkF t):bT t=lS t:=by
 unfold bT lS;by_cases h4:t.op=4
 ·rw[if_pos h4,if_pos h4,aUg h];cases fX t 1<;>cases fX t 8<;>cases fX t 16<;>cases fX t 32<;>rfl
 ·rw[if_neg h4,if_neg h4]
attribute [local irreducible] fN xU bT lS dC hH iC oK JR JM
theorem aVj(t:T):isT 83 t=(xU t):=by
 unfold isT
 (repeat rw[if_pos (by decide)])
theorem aVt(t:T):isT 69 t=(lS t):=by
 unfold isT
 (repeat first|rw[if_pos (by decide)]|rw[if_neg (by decide)])
theorem aVi(t:T):isT 84 t=(dC t):=by
 unfold isT
 (repeat first|rw[if_pos (by decide)]|rw[if_neg (by decide)])
theorem aT9(t:T):isT 116 t=(hH t):=by
 unfold isT
 (repeat first|rw[if_pos (by decide)]|rw[if_neg (by decide)])
theorem aVe(t:T):isT 99 t=(iC t):=by
 unfold isT
 (repeat first|rw[if_pos (by decide)]|rw[if_neg (by decide)])
theorem aVq(t:T):isT 73 t=(decide (t.op=2)||decide (t.op=8)||decide (t.op=7)):=by
 unfold isT
 (repeat first|rw[if_pos (by decide)]|rw[if_neg (by decide)])
theorem aVn(t:T):isT 77 t=(lS t||decide (t.op=7)):=by
 unfold isT
 (repeat first|rw[if_pos (by decide)]|rw[if_neg (by decide)])
theorem aVo(t:T):isT 76 t=(dC t||FK t):=by
 unfold isT
 (repeat first|rw[if_pos (by decide)]|rw[if_neg (by decide)])
theorem aVh(t:T):isT 89 t=(decide (t.op=6)||decide (t.op=7)):=by
 unfold isT
 (repeat first|rw[if_pos (by decide)]|rw[if_neg (by decide)])
theorem aVv(t:T):isT 67 t=(decide (t.op=20)||decide (t.op=7)):=by
 unfold isT
 (repeat first|rw[if_pos (by decide)]|rw[if_neg (by decide)])
theorem aVs(t:T):isT 71 t=(dC t||decide (t.op=7)):=by
 unfold isT
 (repeat first|rw[if_pos (by decide)]|rw[if_neg (by decide)])
theorem aVx(t:T):isT 65 t=(lS t||decide (t.op=40)||decide (t.op=41)):=by
 unfold isT
 (repeat first|rw[if_pos (by decide)]|rw[if_neg (by decide)])
theorem aVf(t:T):isT 97 t=(lS t||decide (t.op=41)):=by
 unfold isT
 (repeat first|rw[if_pos (by decide)]|rw[if_neg (by decide)])
theorem aT7(t:T):isT 70 t=(dC t||decide (t.op=63)):=by
 unfold isT
 (repeat rw[if_neg (by decide)])
 unfold pU
 (repeat rw[if_pos (by decide)])
theorem aVr(t:T):isT 72 t=(dC t||decide (t.op=63)||decide (t.op=40)):=by
 unfold isT
 (repeat rw[if_neg (by decide)])
 unfold pU
 (repeat first|rw[if_pos (by decide)]|rw[if_neg (by decide)])
theorem aUc(t:T):isT 107 t=(decide (t.op=31)||decide (t.op=30)):=by
 unfold isT
 (repeat rw[if_neg (by decide)])
 unfold pU
 (repeat first|rw[if_pos (by decide)]|rw[if_neg (by decide)])
theorem aT8(t:T):isT 119 t=(oK t):=by
 unfold isT
 (repeat rw[if_neg (by decide)])
 unfold pU
 (repeat first|rw[if_pos (by decide)]|rw[if_neg (by decide)])
theorem aUd(t:T):isT 103 t=(fX t 16&&JR t 0):=by
 unfold isT
 (repeat rw[if_neg (by decide)])
 unfold pU
 (repeat first|rw[if_pos (by decide)]|rw[if_neg (by decide)])
theorem aUa(t:T):isT 115 t=(fX t 32&&JM t):=by
 unfold isT
 (repeat rw[if_neg (by decide)])
 unfold pU
 (repeat first|rw[if_pos (by decide)]|rw[if_neg (by decide)])
theorem aUb(t:T):isT 109 t=(fX t 8):=by
 unfold isT
 (repeat rw[if_neg (by decide)])
 unfold pU
 (repeat first|rw[if_pos (by decide)]|rw[if_neg (by decide)])
theorem aVu(t:T):isT 68 t=decide (t.op=3):=by
 unfold isT
 (repeat rw[if_neg (by decide)])
 unfold pU
 (repeat rw[if_neg (by decide)])
 rfl
theorem aVm(t:T):isT 80 t=decide (t.op=5):=by
 unfold isT
 (repeat rw[if_neg (by decide)])
 unfold pU
 (repeat rw[if_neg (by decide)])
 rfl
theorem aVw(t:T):isT 66 t=decide (t.op=6):=by
 unfold isT
 (repeat rw[if_neg (by decide)])
 unfold pU
 (repeat rw[if_neg (by decide)])
 rfl
theorem aVp(t:T):isT 75 t=decide (t.op=22):=by
 unfold isT
 (repeat rw[if_neg (by decide)])
 unfold pU
 (repeat rw[if_neg (by decide)])
 rfl
theorem aVk(t:T):isT 82 t=decide (t.op=39):=by
 unfold isT
 (repeat rw[if_neg (by decide)])
 unfold pU
 (repeat rw[if_neg (by decide)])
 rfl
theorem aVl(t:T):isT 81 t=decide (t.op=62):=by
 unfold isT
 (repeat rw[if_neg (by decide)])
 unfold pU
 (repeat rw[if_neg (by decide)])
 rfl
theorem aVg(t:T):isT 90 t=decide (t.op=64):=by
 unfold isT
 (repeat rw[if_neg (by decide)])
 unfold pU
 (repeat rw[if_neg (by decide)])
 rfl
theorem JQ(a:Int)(t:T):ofT [a] t=decide (t.op=a):=by unfold ofT;simp
theorem aM4(a b:Int)(t:T):ofT [a,b] t=(decide (t.op=a)||decide (t.op=b)):=by unfold ofT;simp
theorem aVa(a b c:Int)(t:T):ofT [a,b,c] t=(decide (t.op=a)||(decide (t.op=b)||decide (t.op=c))):=by unfold ofT;simp
theorem ei2(p q:T→Bool)(t:T):eiT [p,q] t=(p t||q t):=by unfold eiT;simp
def CE(p:T→Bool)(c:Int):Prop:=∀t:T,OkF t→p t=isT c t
theorem ceS:CE fN 83:=fun t h=>by rw[aVj,aMl h]
theorem ceE:CE bT 69:=fun t h=>by rw[aVt,GJ h]
theorem ceT:CE dC 84:=fun t _=>by rw[aVi]
theorem cet:CE hH 116:=fun t _=>by rw[aT9]
theorem ceI:CE (ofT [2,8,7]) 73:=fun t _=>by rw[aVq,aVa,Bool.or_assoc]
theorem ceM:CE (eiT [bT,ofT [7]]) 77:=fun t h=>by rw[aVn,ei2,JQ,GJ h]
theorem ceL:CE rR 76:=fun t _=>by rw[aVo];unfold rR FK;rw[Bool.and_assoc]
theorem ceY:CE (ofT [6,7]) 89:=fun t _=>by rw[aVh,aM4]
theorem ceC:CE (ofT [20,7]) 67:=fun t _=>by rw[aVv,aM4]
theorem ceG:CE (eiT [dC,ofT [7]]) 71:=fun t _=>by rw[aVs,ei2,JQ]
theorem ceA:CE (eiT [bT,ofT [40,41]]) 65:=fun t h=>by rw[aVx,ei2,aM4,GJ h,Bool.or_assoc]
theorem cea:CE GS 97:=fun t h=>by unfold GS;rw[aVf,ei2,JQ,GJ h]
theorem ceF:CE rS 70:=fun t _=>by unfold rS;rw[aT7,ei2,JQ]
theorem ceH:CE (eiT [rS,ofT [40]]) 72:=fun t h=>by rw[aVr,ei2,JQ,ceF t h,aT7]
theorem cek:CE (ofT [31,30]) 107:=fun t _=>by rw[aUc,aM4]
theorem cew:CE oK 119:=fun t _=>by rw[aT8]
theorem ceg:CE DW 103:=fun t h=>by unfold DW;rw[aUd,mT h (by simp)]
theorem ces:CE zB 115:=fun t h=>by unfold zB;rw[aUa,mT h (by simp)]
theorem cem:CE CS 109:=fun t h=>by unfold CS;rw[aUb,mT h (by simp)]
theorem ceD:CE (ofT [3]) 68:=fun t _=>by rw[aVu,JQ]
theorem ceP:CE (ofT [5]) 80:=fun t _=>by rw[aVm,JQ]
theorem ceB:CE (ofT [6]) 66:=fun t _=>by rw[aVw,JQ]
theorem ceK:CE (ofT [22]) 75:=fun t _=>by rw[aVp,JQ]
theorem ceR:CE (ofT [39]) 82:=fun t _=>by rw[aVk,JQ]
theorem ceQ:CE (ofT [62]) 81:=fun t _=>by rw[aVl,JQ]
theorem ceZ:CE (ofT [64]) 90:=fun t _=>by rw[aVg,JQ]
attribute [local irreducible] isT
theorem aUw(p:T→Bool):∀(l:List T) (n:Nat),(oC p 2 n l).2=l.dropWhile p
 |[],_=>rfl
 | k::r,n=>by
   cases h:p k
   ·rw[oC,if_neg (by simp[h]),iW,if_neg (by simp[h])]
   ·rw[oC,if_pos ⟨h,.inr rfl⟩,iW,if_pos h];exact aUw p r _
theorem aEm(p:T→Bool)(m:Int)(hm:m≠2)(l:List T):oC p m 1 l=(1,l):=by
 cases l with
 |nil=>rfl
 |cons k r=>rw[oC,if_neg (by simp[hm])]
theorem mQ(l:List T):dS [] l=decide (l.length=0):=rfl
theorem aB8(p:T→Bool)(r:List ((T→Bool)×Int))(l:List T):dS ((p,2)::r) l=dS r (l.dropWhile p):=by rw[dS,if_neg (by simp),aUw]
theorem US(p:T→Bool)(r:List ((T→Bool)×Int))(l:List T):dS ((p,1)::r) l=dS r (match l with|k::r=>if p k=true then r else k::r|[]=>[]):=by
 rw[dS,if_neg (by simp)];cases l with
 |nil=>rfl
 | cons k t=>
   cases h:p k
   ·rw[oC,if_neg (by simp[h])];simp[h]
   ·rw[oC,if_pos ⟨h,.inl rfl⟩,aEm p 1 (by decide)];simp[h]
theorem rK(p:T→Bool)(r:List ((T→Bool)×Int))(l:List T):dS ((p,0)::r) l=match l with|k::t=>if p k=true then dS r t else false|[]=>false:=by
 rw[dS];cases l with
 |nil=>simp[oC]
 | cons k t=>
   cases h:p k
   ·have e:oC p 0 0 (k::t)=(0,k::t):=by rw[oC,if_neg (by simp[h])]
    rw[e];simp[h]
   ·have e:oC p 0 0 (k::t)=(1,t):=by rw[oC,if_pos ⟨h,.inl rfl⟩,aEm p 0 (by decide)]
    rw[e];simp[h]
def RF(s:List UInt8)(rows:List ((T→Bool)×Int)):Prop:=∀l,pT s l=dS rows l
theorem eY:RF [] []:=fun l=>by rw[MA,mQ]
theorem qH{s:List UInt8}{rows:List ((T→Bool)×Int)}(c:UInt8)(h:RF s rows):RF (c::42::s) ((isT (c.toNat:Int),2)::rows):=fun l=>by rw[QI,aB8,h]
theorem aA5{s:List UInt8}{rows:List ((T→Bool)×Int)}(c:UInt8)(h:RF s rows):RF (c::63::s) ((isT (c.toNat:Int),1)::rows):=fun l=>by
 rw[aIk,US,h];cases l<;>rfl
theorem iM{rows:List ((T→Bool)×Int)}(c:UInt8)(h:RF [] rows):RF [c] ((isT (c.toNat:Int),0)::rows):=fun l=>by
 rw[aIn,rK];cases l with
 |nil=>rfl
 |cons k t=>simp only[h t]
theorem nS{d:UInt8}{s:List UInt8}{rows:List ((T→Bool)×Int)}(c:UInt8)(h1:d≠42)(h2:d≠63)(h:RF (d::s) rows):RF (c::d::s) ((isT (c.toNat:Int),0)::rows):=fun l=>by
 rw[aIm h1 h2,rK];cases l with
 |nil=>rfl
 |cons k t=>simp only[h t]
inductive RE:List ((T→Bool)×Int)→List ((T→Bool)×Int)→Prop
 |nil:RE [] []
 |cons {p q:T→Bool} {m:Int} {r r' :List ((T→Bool)×Int)} (h:∀t,OkF t→p t=q t) (hr:RE r r'):RE ((p,m)::r) ((q,m)::r')
theorem aEl(p:T→Bool)(m:Int):∀(l:List T) (n:Nat) (k:T),k∈(oC p m n l).2→k∈l
 |[],_,_,h=>h
 | x::r,n,k,h=>by
   rw[oC]at h;split at h
   ·exact bP (aEl p m r _ k h)
   ·exact h
theorem SD{p q:T→Bool}(m:Int):∀(l:List T) (n:Nat),(∀k∈l,p k=q k)→oC p m n l=oC q m n l
 |[],_,_=>rfl
 | x::r,n,h=>by rw[oC,oC,h x (.head _),SD m r _ fun k hk=>h k (.tail _ hk)]
theorem dE{r r' :List ((T→Bool)×Int)}(h:RE r r'):∀(l:List T),(∀k∈l,OkF k)→dS r l=dS r' l:=by
 induction h with
 |nil=>exact fun _ _=>rfl
 | cons h hr ih=>
   rename_i p q m rr rr';intro l hl;have e:=SD m l 0 fun k hk=>h k (hl k hk);rw[dS,dS,e,ih _ fun k hk=>hl k (aEl q m l 0 k hk)]
theorem aJf(l:List T):decide (l.length=0)=l.isEmpty:=by cases l<;>simp
theorem aL0(p:T→Bool):∀l:List T,(l.dropWhile p).isEmpty=l.all p
 |[]=>rfl
 | k::r=>by
   rw[iW,lR];cases h:p k
   ·simp
   ·simp only[if_pos,bR];exact aL0 p r
theorem aKr(p:T→Bool)(l:List T):jL p 0 (-1) l=dS [(p,2)] l:=by
 rw[aB8,mQ,aJf,aL0];unfold jL;simp
theorem aUu(p:T→Bool)(l:List T):jL p 1 (-1) l=dS [(p,0),(p,2)] l:=by
 rw[rK];cases l with
 |nil=>rfl
 | cons k r=>
   simp only[←aKr];unfold jL;cases h:p k<;>simp[h];try omega
theorem aV3(p:T→Bool)(l:List T):jL p 2 (-1) l=dS [(p,0),(p,0),(p,2)] l:=by
 rw[rK];cases l with
 |nil=>rfl
 | cons k r=>
   simp only[←aUu];unfold jL;cases h:p k<;>simp[h];rw[show decide (2≤(r.length:Int)+1)=decide (1≤(r.length:Int))from decide_eq_decide.2 (by omega)]
theorem aKq(p:T→Bool)(l:List T):jL p 1 1 l=dS [(p,0)] l:=by
 rw[rK];cases l with
 |nil=>rfl
 | cons k r=>
   simp only[mQ];unfold jL;cases r with
   |nil=>cases h:p k<;>simp[h]
   | cons k2 r=>
     cases h:p k<;>simp[h];try omega
theorem aP8(p:T→Bool)(l:List T):jL p 2 2 l=dS [(p,0),(p,0)] l:=by
 rw[rK];cases l with
 |nil=>rfl
 | cons k r=>
   simp only[←aKq];unfold jL;cases h:p k<;>simp[h];rw[show decide (2≤(r.length:Int)+1)=decide (1≤(r.length:Int))from decide_eq_decide.2 (by omega),show decide ((r.length:Int)+1≤2)=decide ((r.length:Int)≤1)from decide_eq_decide.2 (by omega)]
theorem aUt(p:T→Bool)(l:List T):jL p 3 3 l=dS [(p,0),(p,0),(p,0)] l:=by
 rw[rK];cases l with
 |nil=>rfl
 | cons k r=>
   simp only[←aP8];unfold jL;cases h:p k<;>simp[h];rw[show decide (3≤(r.length:Int)+1)=decide (2≤(r.length:Int))from decide_eq_decide.2 (by omega),show decide ((r.length:Int)+1≤3)=decide ((r.length:Int)≤2)from decide_eq_decide.2 (by omega)]
theorem aP9(p:T→Bool)(l:List T):jL p 0 1 l=dS [(p,1)] l:=by
 rw[US];cases l with
 |nil=>rfl
 | cons k r=>
   unfold jL;cases r with
   |nil=>cases h:p k<;>simp[h,mQ]
   | cons k2 r=>
     cases h:p k<;>simp[h,mQ];try omega
noncomputable def rE (t:T):Bool:=if t.op=36 then nR lS t.kids else decide (bO t≠⟨#[33]⟩)&&pT (bl (bO t)) t.kids
noncomputable def vE (t:T):Bool:=(if t.op=19 then(match t.kids with|[_,y,z]=>decide (y.op≠7)||decide (z.op≠7)|_=>false)else true)&&(if t.op=53 then(match t.kids with|[k]=>chB k|_=>false)else true)
noncomputable def eA (t:T):Bool:=rE t&&vE t
theorem EF{t:T}(h1:t.op≠19)(h2:t.op≠53):vE t=true:=by unfold vE;rw[if_neg h1,if_neg h2];rfl
theorem fL{t:T}{s:ByteArray}(h1:t.op≠19)(h2:t.op≠53)(h3:t.op≠36)(hs:bO t=s)(hne:s≠⟨#[33]⟩):eA t=pT (bl s) t.kids:=by
 unfold eA rE;rw[EF h1 h2,if_neg h3,hs,decide_eq_true hne,bR,iY]
attribute [local irreducible] dS pT jL nR chB
theorem aNi(t:T)(a:t.op=1∨t.op=6)(hk:∀k∈t.kids,OkF k):bD t=eA t:=by
 have e1:bD t=jL fN 0 (-1) t.kids:=by
  unfold bD;rw[if_pos (by omega)];unfold stB
  (repeat rw[if_pos (by omega)])
 have e2:bO t=⟨#[83,42]⟩:=by
  unfold bO
  (repeat rw[if_pos (by omega)])
 rw[e1,fL (by omega) (by omega) (by omega) e2 (by decide),show bl ⟨#[83,42]⟩=[83,42]from rfl,(qH 83 eY)];rw[aKr];exact dE (.cons ceS .nil) _ hk
theorem aRt(t:T)(a:t.op=2)(hk:∀k∈t.kids,OkF k):bD t=eA t:=by
 have e1:bD t=jL (ofT [3]) 1 (-1) t.kids:=by
  unfold bD;rw[if_pos (by omega)];unfold stB
  (repeat first|rw[if_pos (by omega)]|rw[if_neg (by omega)])
 have e2:bO t=⟨#[68,68,42]⟩:=by
  unfold bO
  (repeat first|rw[if_pos (by omega)]|rw[if_neg (by omega)])
 rw[e1,fL (by omega) (by omega) (by omega) e2 (by decide),show bl ⟨#[68,68,42]⟩=[68,68,42]from rfl,(nS 68 (by decide) (by decide) (qH 68 eY))];rw[aUu];exact dE (.cons ceD (.cons ceD .nil)) _ hk
theorem aNm(t:T)(a:t.op=3)(hk:∀k∈t.kids,OkF k):bD t=eA t:=by
 have e1:bD t=dS [(dC,0),(bT,1)] t.kids:=by
  unfold bD;rw[if_pos (by omega)];unfold stB
  (repeat first|rw[if_pos (by omega)]|rw[if_neg (by omega)])
 have e2:bO t=⟨#[84,69,63]⟩:=by
  unfold bO
  (repeat first|rw[if_pos (by omega)]|rw[if_neg (by omega)])
 rw[e1,fL (by omega) (by omega) (by omega) e2 (by decide),show bl ⟨#[84,69,63]⟩=[84,69,63]from rfl,(nS 84 (by decide) (by decide) (aA5 69 eY))];exact dE (.cons ceT (.cons ceE .nil)) _ hk
theorem aGn(t:T)(a:t.op=5)(hk:∀k∈t.kids,OkF k):bD t=eA t:=by
 have e1:bD t=dS [(eiT [dC,ofT [63]],2),(ofT [64],1)] t.kids:=by
  unfold bD;rw[if_pos (by omega)];unfold stB
  (repeat first|rw[if_pos (by omega)]|rw[if_neg (by omega)])
 have e2:bO t=⟨#[70,42,90,63]⟩:=by
  unfold bO
  (repeat first|rw[if_pos (by omega)]|rw[if_neg (by omega)])
 rw[e1,fL (by omega) (by omega) (by omega) e2 (by decide),show bl ⟨#[70,42,90,63]⟩=[70,42,90,63]from rfl,(qH 70 (aA5 90 eY))];exact dE (.cons ceF (.cons ceZ .nil)) _ hk
theorem aNj(t:T)(a:t.op=7∨t.op=15∨t.op=16)(hk:∀k∈t.kids,OkF k):bD t=eA t:=by
 have e1:bD t=decide (t.kids.length=0):=by
  unfold bD;rw[if_pos (by omega)];unfold stB
  (repeat first|rw[if_pos (by omega)]|rw[if_neg (by omega)])
 have e2:bO t=⟨#[]⟩:=by
  unfold bO
  (repeat first|rw[if_pos (by omega)]|rw[if_neg (by omega)])
 rw[e1,fL (by omega) (by omega) (by omega) e2 (by decide),show bl ⟨#[]⟩=[]from rfl,eY];rw[mQ]
theorem aNl(t:T)(a:t.op=8∨t.op=18)(hk:∀k∈t.kids,OkF k):bD t=eA t:=by
 have e1:bD t=dS (eK [bT]) t.kids:=by
  unfold bD;rw[if_pos (by omega)];unfold stB
  (repeat first|rw[if_pos (by omega)]|rw[if_neg (by omega)])
 have e2:bO t=⟨#[69]⟩:=by
  unfold bO
  (repeat first|rw[if_pos (by omega)]|rw[if_neg (by omega)])
 rw[e1,fL (by omega) (by omega) (by omega) e2 (by decide),show bl ⟨#[69]⟩=[69]from rfl,(iM 69 eY)];exact dE (.cons ceE .nil) _ hk
theorem aT5(t:T)(a:t.op=9)(hk:∀k∈t.kids,OkF k):bD t=eA t:=by
 have e1:bD t=dS [(bT,0),(fN,0),(fN,1)] t.kids:=by
  unfold bD;rw[if_pos (by omega)];unfold stB
  (repeat first|rw[if_pos (by omega)]|rw[if_neg (by omega)])
 have e2:bO t=⟨#[69,83,83,63]⟩:=by
  unfold bO
  (repeat first|rw[if_pos (by omega)]|rw[if_neg (by omega)])
 rw[e1,fL (by omega) (by omega) (by omega) e2 (by decide),show bl ⟨#[69,83,83,63]⟩=[69,83,83,63]from rfl,(nS 69 (by decide) (by decide) (nS 83 (by decide) (by decide) (aA5 83 eY)))];exact dE (.cons ceE (.cons ceS (.cons ceS .nil))) _ hk
theorem aRy(t:T)(a:t.op=10)(hk:∀k∈t.kids,OkF k):bD t=eA t:=by
 have e1:bD t=dS (eK [ofT [2,8,7],eiT [bT,ofT [7]],eiT [bT,ofT [7]],fN]) t.kids:=by
  unfold bD;rw[if_pos (by omega)];unfold stB
  (repeat first|rw[if_pos (by omega)]|rw[if_neg (by omega)])
 have e2:bO t=⟨#[73,77,77,83]⟩:=by
  unfold bO
  (repeat first|rw[if_pos (by omega)]|rw[if_neg (by omega)])
 rw[e1,fL (by omega) (by omega) (by omega) e2 (by decide),show bl ⟨#[73,77,77,83]⟩=[73,77,77,83]from rfl,(nS 73 (by decide) (by decide) (nS 77 (by decide) (by decide) (nS 77 (by decide) (by decide) (iM 83 eY))))];exact dE (.cons ceI (.cons ceM (.cons ceM (.cons ceS .nil)))) _ hk
theorem aJo(t:T)(a:t.op=11∨t.op=12)(hk:∀k∈t.kids,OkF k):bD t=eA t:=by
 have e1:bD t=dS (eK [rR,bT,fN]) t.kids:=by
  unfold bD;rw[if_pos (by omega)];unfold stB
  (repeat first|rw[if_pos (by omega)]|rw[if_neg (by omega)])
 have e2:bO t=⟨#[76,69,83]⟩:=by
  unfold bO
  (repeat first|rw[if_pos (by omega)]|rw[if_neg (by omega)])
 rw[e1,fL (by omega) (by omega) (by omega) e2 (by decide),show bl ⟨#[76,69,83]⟩=[76,69,83]from rfl,(nS 76 (by decide) (by decide) (nS 69 (by decide) (by decide) (iM 83 eY)))];exact dE (.cons ceL (.cons ceE (.cons ceS .nil))) _ hk
theorem aJl(t:T)(a:t.op=13)(hk:∀k∈t.kids,OkF k):bD t=eA t:=by
 have e1:bD t=dS (eK [bT,fN]) t.kids:=by
  unfold bD;rw[if_pos (by omega)];unfold stB
  (repeat first|rw[if_pos (by omega)]|rw[if_neg (by omega)])
 have e2:bO t=⟨#[69,83]⟩:=by
  unfold bO
  (repeat first|rw[if_pos (by omega)]|rw[if_neg (by omega)])
 rw[e1,fL (by omega) (by omega) (by omega) e2 (by decide),show bl ⟨#[69,83]⟩=[69,83]from rfl,(nS 69 (by decide) (by decide) (iM 83 eY))];exact dE (.cons ceE (.cons ceS .nil)) _ hk
theorem aT6(t:T)(a:t.op=14)(hk:∀k∈t.kids,OkF k):bD t=eA t:=by
 have e1:bD t=dS (eK [fN,bT]) t.kids:=by
  unfold bD;rw[if_pos (by omega)];unfold stB
  (repeat first|rw[if_pos (by omega)]|rw[if_neg (by omega)])
 have e2:bO t=⟨#[83,69]⟩:=by
  unfold bO
  (repeat first|rw[if_pos (by omega)]|rw[if_neg (by omega)])
 rw[e1,fL (by omega) (by omega) (by omega) e2 (by decide),show bl ⟨#[83,69]⟩=[83,69]from rfl,(nS 83 (by decide) (by decide) (iM 69 eY))];exact dE (.cons ceS (.cons ceE .nil)) _ hk
theorem aRw(t:T)(a:t.op=17)(hk:∀k∈t.kids,OkF k):bD t=eA t:=by
 have e1:bD t=jL bT 0 1 t.kids:=by
  unfold bD;rw[if_pos (by omega)];unfold stB
  (repeat first|rw[if_pos (by omega)]|rw[if_neg (by omega)])
 have e2:bO t=⟨#[69,63]⟩:=by
  unfold bO
  (repeat first|rw[if_pos (by omega)]|rw[if_neg (by omega)])
 rw[e1,fL (by omega) (by omega) (by omega) e2 (by decide),show bl ⟨#[69,63]⟩=[69,63]from rfl,(aA5 69 eY)];rw[aP9];exact dE (.cons ceE .nil) _ hk
theorem aJp(t:T)(a:t.op=20)(hk:∀k∈t.kids,OkF k):bD t=eA t:=by
 have e1:bD t=dS (eK [eiT [dC,ofT [7]],ofT [6]]) t.kids:=by
  unfold bD;rw[if_pos (by omega)];unfold stB
  (repeat first|rw[if_pos (by omega)]|rw[if_neg (by omega)])
 have e2:bO t=⟨#[71,66]⟩:=by
  unfold bO
  (repeat first|rw[if_pos (by omega)]|rw[if_neg (by omega)])
 rw[e1,fL (by omega) (by omega) (by omega) e2 (by decide),show bl ⟨#[71,66]⟩=[71,66]from rfl,(nS 71 (by decide) (by decide) (iM 66 eY))];exact dE (.cons ceG (.cons ceB .nil)) _ hk
theorem aGd(t:T)(a:t.op=21)(hk:∀k∈t.kids,OkF k):bD t=eA t:=by
 have e1:bD t=dS [(bT,0),(ofT [22],2)] t.kids:=by
  unfold bD;rw[if_pos (by omega)];unfold stB
  (repeat first|rw[if_pos (by omega)]|rw[if_neg (by omega)])
 have e2:bO t=⟨#[69,75,42]⟩:=by
  unfold bO
  (repeat rw[if_neg (by omega)])
  unfold kA
  (repeat rw[if_pos (by omega)])
 rw[e1,fL (by omega) (by omega) (by omega) e2 (by decide),show bl ⟨#[69,75,42]⟩=[69,75,42]from rfl,(nS 69 (by decide) (by decide) (qH 75 eY))];exact dE (.cons ceE (.cons ceK .nil)) _ hk
theorem aJr(t:T)(a:t.op=22)(hn:t.n=1)(hk:∀k∈t.kids,OkF k):bD t=eA t:=by
 have e1:bD t=jL fN 0 (-1) t.kids:=by
  unfold bD;rw[if_pos (by omega)];unfold stB
  (repeat first|rw[if_pos (by omega)]|rw[if_neg (by omega)])
 have e2:bO t=⟨#[83,42]⟩:=by
  unfold bO
  (repeat rw[if_neg (by omega)])
  unfold kA
  (repeat first|rw[if_pos (by omega)]|rw[if_neg (by omega)])
 rw[e1,fL (by omega) (by omega) (by omega) e2 (by decide),show bl ⟨#[83,42]⟩=[83,42]from rfl,(qH 83 eY)];rw[aKr];exact dE (.cons ceS .nil) _ hk
theorem aJq(t:T)(a:t.op=22)(hn:t.n≠1)(hk:∀k∈t.kids,OkF k):bD t=eA t:=by
 have e1:bD t=dS [(bT,0),(fN,2)] t.kids:=by
  unfold bD;rw[if_pos (by omega)];unfold stB
  (repeat first|rw[if_pos (by omega)]|rw[if_neg (by omega)])
 have e2:bO t=⟨#[69,83,42]⟩:=by
  unfold bO
  (repeat rw[if_neg (by omega)])
  unfold kA
  (repeat first|rw[if_pos (by omega)]|rw[if_neg (by omega)])
 rw[e1,fL (by omega) (by omega) (by omega) e2 (by decide),show bl ⟨#[69,83,42]⟩=[69,83,42]from rfl,(nS 69 (by decide) (by decide) (qH 83 eY))];exact dE (.cons ceE (.cons ceS .nil)) _ hk
theorem aJn(t:T)(a:t.op=23)(hk:∀k∈t.kids,OkF k):bD t=eA t:=by
 have e1:bD t=dS (eK [fN]) t.kids:=by
  unfold bD;rw[if_pos (by omega)];unfold stB
  (repeat rw[if_neg (by omega)])
 have e2:bO t=⟨#[83]⟩:=by
  unfold bO
  (repeat rw[if_neg (by omega)])
  unfold kA
  (repeat first|rw[if_pos (by omega)]|rw[if_neg (by omega)])
 rw[e1,fL (by omega) (by omega) (by omega) e2 (by decide),show bl ⟨#[83]⟩=[83]from rfl,(iM 83 eY)];exact dE (.cons ceS .nil) _ hk
theorem aRx(t:T)(a:t.op=30∨t.op=31∨t.op=32∨t.op=33∨t.op=34∨t.op=35∨t.op=40)(hk:∀k∈t.kids,OkF k):bD t=eA t:=by
 have e1:bD t=decide (t.kids.length=0):=by
  unfold bD;rw[if_neg (by omega)];unfold exB
  (repeat rw[if_pos (by omega)])
 have e2:bO t=⟨#[]⟩:=by
  unfold bO
  (repeat first|rw[if_pos (by omega)]|rw[if_neg (by omega)])
 rw[e1,fL (by omega) (by omega) (by omega) e2 (by decide),show bl ⟨#[]⟩=[]from rfl,eY];rw[mQ]
theorem aJs(t:T)(a:t.op=37)(hk:∀k∈t.kids,OkF k):bD t=eA t:=by
 have e1:bD t=jL (eiT [bT,ofT [40,41]]) 0 (-1) t.kids:=by
  unfold bD;rw[if_neg (by omega)];unfold exB
  (repeat first|rw[if_pos (by omega)]|rw[if_neg (by omega)])
 have e2:bO t=⟨#[65,42]⟩:=by
  unfold bO
  (repeat rw[if_neg (by omega)])
  unfold kA
  (repeat first|rw[if_pos (by omega)]|rw[if_neg (by omega)])
 rw[e1,fL (by omega) (by omega) (by omega) e2 (by decide),show bl ⟨#[65,42]⟩=[65,42]from rfl,(qH 65 eY)];rw[aKr];exact dE (.cons ceA .nil) _ hk
theorem aGp(t:T)(a:t.op=38)(hk:∀k∈t.kids,OkF k):bD t=eA t:=by
 have e1:bD t=jL (ofT [39]) 0 (-1) t.kids:=by
  unfold bD;rw[if_neg (by omega)];unfold exB
  (repeat first|rw[if_pos (by omega)]|rw[if_neg (by omega)])
 have e2:bO t=⟨#[82,42]⟩:=by
  unfold bO
  (repeat rw[if_neg (by omega)])
  unfold kA
  (repeat first|rw[if_pos (by omega)]|rw[if_neg (by omega)])
 rw[e1,fL (by omega) (by omega) (by omega) e2 (by decide),show bl ⟨#[82,42]⟩=[82,42]from rfl,(qH 82 eY)];rw[aKr];exact dE (.cons ceR .nil) _ hk
theorem aGe(t:T)(a:t.op=41∨t.op=42)(hk:∀k∈t.kids,OkF k):bD t=eA t:=by
 have e1:bD t=dS (eK [bT]) t.kids:=by
  unfold bD;rw[if_neg (by omega)];unfold exB
  (repeat first|rw[if_pos (by omega)]|rw[if_neg (by omega)])
 have e2:bO t=⟨#[69]⟩:=by
  unfold bO
  (repeat first|rw[if_pos (by omega)]|rw[if_neg (by omega)])
 rw[e1,fL (by omega) (by omega) (by omega) e2 (by decide),show bl ⟨#[69]⟩=[69]from rfl,(iM 69 eY)];exact dE (.cons ceE .nil) _ hk
theorem aGc(t:T)(a:t.op=43)(hk:∀k∈t.kids,OkF k):bD t=eA t:=by
 have e1:bD t=dS (eK [hH]) t.kids:=by
  unfold bD;rw[if_neg (by omega)];unfold exB
  (repeat first|rw[if_pos (by omega)]|rw[if_neg (by omega)])
 have e2:bO t=⟨#[116]⟩:=by
  unfold bO
  (repeat rw[if_neg (by omega)])
  unfold kA
  (repeat first|rw[if_pos (by omega)]|rw[if_neg (by omega)])
 rw[e1,fL (by omega) (by omega) (by omega) e2 (by decide),show bl ⟨#[116]⟩=[116]from rfl,(iM 116 eY)];exact dE (.cons cet .nil) _ hk
theorem aR0(t:T)(a:t.op=44∨t.op=45∨t.op=52)(hk:∀k∈t.kids,OkF k):bD t=eA t:=by
 have e1:bD t=jL bT 2 2 t.kids:=by
  unfold bD;rw[if_neg (by omega)];unfold exB
  (repeat first|rw[if_pos (by omega)]|rw[if_neg (by omega)])
 have e2:bO t=⟨#[69,69]⟩:=by
  unfold bO
  (repeat rw[if_neg (by omega)])
  unfold kA
  (repeat first|rw[if_pos (by omega)]|rw[if_neg (by omega)])
 rw[e1,fL (by omega) (by omega) (by omega) e2 (by decide),show bl ⟨#[69,69]⟩=[69,69]from rfl,(nS 69 (by decide) (by decide) (iM 69 eY))];rw[aP8];exact dE (.cons ceE (.cons ceE .nil)) _ hk
theorem aNq(t:T)(a:t.op=46)(hs:t.s=⟨#[61]⟩)(hk:∀k∈t.kids,OkF k):bD t=eA t:=by
 have e1:bD t=dS (eK [dC,bT]) t.kids:=by
  unfold bD;rw[if_neg (by omega)];unfold exB
  (repeat first|rw[if_pos (by omega)]|rw[if_neg (by omega)])
  (try rw[if_pos hs])
 have e2:bO t=⟨#[84,69]⟩:=by
  unfold bO
  (repeat rw[if_neg (by omega)])
  unfold kA
  (repeat first|rw[if_pos (by omega)]|rw[if_neg (by omega)])
  (try rw[if_pos hs])
 rw[e1,fL (by omega) (by omega) (by omega) e2 (by decide),show bl ⟨#[84,69]⟩=[84,69]from rfl,(nS 84 (by decide) (by decide) (iM 69 eY))];exact dE (.cons ceT (.cons ceE .nil)) _ hk
theorem aNp(t:T)(a:t.op=46)(hs:¬t.s=⟨#[61]⟩)(hk:∀k∈t.kids,OkF k):bD t=eA t:=by
 have e1:bD t=dS (eK [hH,bT]) t.kids:=by
  unfold bD;rw[if_neg (by omega)];unfold exB
  (repeat first|rw[if_pos (by omega)]|rw[if_neg (by omega)])
  (try rw[if_neg hs])
 have e2:bO t=⟨#[116,69]⟩:=by
  unfold bO
  (repeat rw[if_neg (by omega)])
  unfold kA
  (repeat first|rw[if_pos (by omega)]|rw[if_neg (by omega)])
  (try rw[if_neg hs])
 rw[e1,fL (by omega) (by omega) (by omega) e2 (by decide),show bl ⟨#[116,69]⟩=[116,69]from rfl,(nS 116 (by decide) (by decide) (iM 69 eY))];exact dE (.cons cet (.cons ceE .nil)) _ hk
theorem aNn(t:T)(a:t.op=47)(hk:∀k∈t.kids,OkF k):bD t=eA t:=by
 have e1:bD t=jL bT 3 3 t.kids:=by
  unfold bD;rw[if_neg (by omega)];unfold exB
  (repeat first|rw[if_pos (by omega)]|rw[if_neg (by omega)])
 have e2:bO t=⟨#[69,69,69]⟩:=by
  unfold bO
  (repeat rw[if_neg (by omega)])
  unfold kA
  (repeat first|rw[if_pos (by omega)]|rw[if_neg (by omega)])
 rw[e1,fL (by omega) (by omega) (by omega) e2 (by decide),show bl ⟨#[69,69,69]⟩=[69,69,69]from rfl,(nS 69 (by decide) (by decide) (nS 69 (by decide) (by decide) (iM 69 eY)))];rw[aUt];exact dE (.cons ceE (.cons ceE (.cons ceE .nil))) _ hk
theorem aRv(t:T)(a:t.op=48)(hk:∀k∈t.kids,OkF k):bD t=eA t:=by
 have e1:bD t=jL bT 2 (-1) t.kids:=by
  unfold bD;rw[if_neg (by omega)];unfold exB
  (repeat first|rw[if_pos (by omega)]|rw[if_neg (by omega)])
 have e2:bO t=⟨#[69,69,69,42]⟩:=by
  unfold bO
  (repeat rw[if_neg (by omega)])
  unfold kA
  (repeat first|rw[if_pos (by omega)]|rw[if_neg (by omega)])
 rw[e1,fL (by omega) (by omega) (by omega) e2 (by decide),show bl ⟨#[69,69,69,42]⟩=[69,69,69,42]from rfl,(nS 69 (by decide) (by decide) (nS 69 (by decide) (by decide) (qH 69 eY)))];rw[aV3];exact dE (.cons ceE (.cons ceE (.cons ceE .nil))) _ hk
theorem aNo(t:T)(a:t.op=49∨t.op=50)(hk:∀k∈t.kids,OkF k):bD t=eA t:=by
 have e1:bD t=dS [(bT,0),(GS,2)] t.kids:=by
  unfold bD;rw[if_neg (by omega)];unfold exB
  (repeat first|rw[if_pos (by omega)]|rw[if_neg (by omega)])
 have e2:bO t=⟨#[69,97,42]⟩:=by
  unfold bO
  (repeat rw[if_neg (by omega)])
  unfold kA
  (repeat first|rw[if_pos (by omega)]|rw[if_neg (by omega)])
 rw[e1,fL (by omega) (by omega) (by omega) e2 (by decide),show bl ⟨#[69,97,42]⟩=[69,97,42]from rfl,(nS 69 (by decide) (by decide) (qH 97 eY))];exact dE (.cons ceE (.cons cea .nil)) _ hk
theorem aRz(t:T)(a:t.op=51)(hk:∀k∈t.kids,OkF k):bD t=eA t:=by
 have e1:bD t=jL bT 1 1 t.kids:=by
  unfold bD;rw[if_neg (by omega)];unfold exB
  (repeat first|rw[if_pos (by omega)]|rw[if_neg (by omega)])
 have e2:bO t=⟨#[69]⟩:=by
  unfold bO
  (repeat rw[if_neg (by omega)])
  unfold kA
  (repeat first|rw[if_pos (by omega)]|rw[if_neg (by omega)])
 rw[e1,fL (by omega) (by omega) (by omega) e2 (by decide),show bl ⟨#[69]⟩=[69]from rfl,(iM 69 eY)];rw[aKq];exact dE (.cons ceE .nil) _ hk
theorem aGa(t:T)(a:t.op=54)(hn:t.n=1)(hk:∀k∈t.kids,OkF k):bD t=eA t:=by
 have e1:bD t=jL bT 1 1 t.kids:=by
  unfold bD;rw[if_neg (by omega)];unfold exB
  (repeat first|rw[if_pos (by omega)]|rw[if_neg (by omega)])
  rw[hn]
 have e2:bO t=⟨#[69]⟩:=by
  unfold bO
  (repeat rw[if_neg (by omega)])
  unfold kA
  (repeat first|rw[if_pos (by omega)]|rw[if_neg (by omega)])
 rw[e1,fL (by omega) (by omega) (by omega) e2 (by decide),show bl ⟨#[69]⟩=[69]from rfl,(iM 69 eY)];rw[aKq];exact dE (.cons ceE .nil) _ hk
theorem aGb(t:T)(a:t.op=54)(hn:t.n=0)(hk:∀k∈t.kids,OkF k):bD t=eA t:=by
 have e1:bD t=jL bT 0 1 t.kids:=by
  unfold bD;rw[if_neg (by omega)];unfold exB
  (repeat first|rw[if_pos (by omega)]|rw[if_neg (by omega)])
  rw[hn]
 have e2:bO t=⟨#[69,63]⟩:=by
  unfold bO
  (repeat rw[if_neg (by omega)])
  unfold kA
  (repeat first|rw[if_pos (by omega)]|rw[if_neg (by omega)])
 rw[e1,fL (by omega) (by omega) (by omega) e2 (by decide),show bl ⟨#[69,63]⟩=[69,63]from rfl,(aA5 69 eY)];rw[aP9];exact dE (.cons ceE .nil) _ hk
theorem aGq(t:T)(a:t.op=60)(hk:∀k∈t.kids,OkF k):bD t=eA t:=by
 have e1:bD t=dS [(eiT [rS,ofT [40]],2),(ofT [64],1)] t.kids:=by
  unfold bD;rw[if_neg (by omega)];unfold exB
  (repeat rw[if_neg (by omega)])
  unfold iA
  (repeat rw[if_pos (by omega)])
 have e2:bO t=⟨#[72,42,90,63]⟩:=by
  unfold bO
  (repeat rw[if_neg (by omega)])
  unfold kA
  (repeat first|rw[if_pos (by omega)]|rw[if_neg (by omega)])
 rw[e1,fL (by omega) (by omega) (by omega) e2 (by decide),show bl ⟨#[72,42,90,63]⟩=[72,42,90,63]from rfl,(qH 72 (aA5 90 eY))];exact dE (.cons ceH (.cons ceZ .nil)) _ hk
theorem aGo(t:T)(a:t.op=61)(hk:∀k∈t.kids,OkF k):bD t=eA t:=by
 have e1:bD t=dS [(ofT [62],2),(ofT [64],1)] t.kids:=by
  unfold bD;rw[if_neg (by omega)];unfold exB
  (repeat rw[if_neg (by omega)])
  unfold iA
  (repeat first|rw[if_pos (by omega)]|rw[if_neg (by omega)])
 have e2:bO t=⟨#[81,42,90,63]⟩:=by
  unfold bO
  (repeat rw[if_neg (by omega)])
  unfold kA
  (repeat first|rw[if_pos (by omega)]|rw[if_neg (by omega)])
 rw[e1,fL (by omega) (by omega) (by omega) e2 (by decide),show bl ⟨#[81,42,90,63]⟩=[81,42,90,63]from rfl,(qH 81 (aA5 90 eY))];exact dE (.cons ceQ (.cons ceZ .nil)) _ hk
theorem YE(t:T)(a:t.op=62)(hm:t.m=1)(hk:∀k∈t.kids,OkF k):bD t=eA t:=by
 have e1:bD t=dS (eK [bT,rS]) t.kids:=by
  unfold bD;rw[if_neg (by omega)];unfold exB
  (repeat rw[if_neg (by omega)])
  unfold iA
  (repeat first|rw[if_pos (by omega)]|rw[if_neg (by omega)])
  unfold pO
  (repeat rw[if_pos (by omega)])
 have e2:bO t=⟨#[69,70]⟩:=by
  unfold bO
  (repeat rw[if_neg (by omega)])
  unfold kA
  (repeat first|rw[if_pos (by omega)]|rw[if_neg (by omega)])
 rw[e1,fL (by omega) (by omega) (by omega) e2 (by decide),show bl ⟨#[69,70]⟩=[69,70]from rfl,(nS 69 (by decide) (by decide) (iM 70 eY))];exact dE (.cons ceE (.cons ceF .nil)) _ hk
theorem YF(t:T)(a:t.op=62)(hm:t.m≠1)(hk:∀k∈t.kids,OkF k):bD t=eA t:=by
 have e1:bD t=dS (eK [ofT [31,30],rS]) t.kids:=by
  unfold bD;rw[if_neg (by omega)];unfold exB
  (repeat rw[if_neg (by omega)])
  unfold iA
  (repeat first|rw[if_pos (by omega)]|rw[if_neg (by omega)])
  unfold pO
  (repeat rw[if_neg (by omega)])
 have e2:bO t=⟨#[107,70]⟩:=by
  unfold bO
  (repeat rw[if_neg (by omega)])
  unfold kA
  (repeat first|rw[if_pos (by omega)]|rw[if_neg (by omega)])
 rw[e1,fL (by omega) (by omega) (by omega) e2 (by decide),show bl ⟨#[107,70]⟩=[107,70]from rfl,(nS 107 (by decide) (by decide) (iM 70 eY))];exact dE (.cons cek (.cons ceF .nil)) _ hk
theorem aBs(t:T)(a:t.op=63)(hk:∀k∈t.kids,OkF k):bD t=eA t:=by
 have e1:bD t=dS (eK [dC,bT]) t.kids:=by
  unfold bD;rw[if_neg (by omega)];unfold exB
  (repeat rw[if_neg (by omega)])
  unfold iA
  (repeat first|rw[if_pos (by omega)]|rw[if_neg (by omega)])
 have e2:bO t=⟨#[84,69]⟩:=by
  unfold bO
  (repeat rw[if_neg (by omega)])
  unfold kA
  (repeat first|rw[if_pos (by omega)]|rw[if_neg (by omega)])
 rw[e1,fL (by omega) (by omega) (by omega) e2 (by decide),show bl ⟨#[84,69]⟩=[84,69]from rfl,(nS 84 (by decide) (by decide) (iM 69 eY))];exact dE (.cons ceT (.cons ceE .nil)) _ hk
theorem aNh(t:T)(a:t.op=64)(hk:∀k∈t.kids,OkF k):bD t=eA t:=by
 have e1:bD t=dS (eK [dC]) t.kids:=by
  unfold bD;rw[if_neg (by omega)];unfold exB
  (repeat rw[if_neg (by omega)])
  unfold iA
  (repeat first|rw[if_pos (by omega)]|rw[if_neg (by omega)])
 have e2:bO t=⟨#[84]⟩:=by
  unfold bO
  (repeat rw[if_neg (by omega)])
  unfold kA
  (repeat first|rw[if_pos (by omega)]|rw[if_neg (by omega)])
 rw[e1,fL (by omega) (by omega) (by omega) e2 (by decide),show bl ⟨#[84]⟩=[84]from rfl,(iM 84 eY)];exact dE (.cons ceT .nil) _ hk
theorem aGl(t:T)(a:t.op=39)(hn:t.n=0)(hm:t.m≠1)(hk:∀k∈t.kids,OkF k):bD t=eA t:=by
 have e1:bD t=dS (eK [ofT [31,30],bT]) t.kids:=by
  unfold bD;rw[if_neg (by omega)];unfold exB
  (repeat first|rw[if_pos (by omega)]|rw[if_neg (by omega)])
  unfold rC
  (repeat rw[if_pos (by omega)])
  unfold pO
  (repeat rw[if_neg (by omega)])
 have e2:bO t=⟨#[107,69]⟩:=by
  unfold bO
  (repeat rw[if_neg (by omega)])
  unfold kA
  (repeat first|rw[if_pos (by omega)]|rw[if_neg (by omega)])
  unfold tU
  (repeat rw[if_pos (by omega)])
  unfold pP
  (repeat rw[if_neg (by omega)])
  rfl
 rw[e1,fL (by omega) (by omega) (by omega) e2 (by decide),show bl ⟨#[107,69]⟩=[107,69]from rfl,(nS 107 (by decide) (by decide) (iM 69 eY))];exact dE (.cons cek (.cons ceE .nil)) _ hk
theorem aGm(t:T)(a:t.op=39)(hn:t.n=0)(hm:t.m=1)(hk:∀k∈t.kids,OkF k):bD t=eA t:=by
 have e1:bD t=dS (eK [bT,bT]) t.kids:=by
  unfold bD;rw[if_neg (by omega)];unfold exB
  (repeat first|rw[if_pos (by omega)]|rw[if_neg (by omega)])
  unfold rC
  (repeat rw[if_pos (by omega)])
  unfold pO
  (repeat rw[if_pos (by omega)])
 have e2:bO t=⟨#[69,69]⟩:=by
  unfold bO
  (repeat rw[if_neg (by omega)])
  unfold kA
  (repeat first|rw[if_pos (by omega)]|rw[if_neg (by omega)])
  unfold tU
  (repeat rw[if_pos (by omega)])
  unfold pP
  (repeat rw[if_pos (by omega)])
  rfl
 rw[e1,fL (by omega) (by omega) (by omega) e2 (by decide),show bl ⟨#[69,69]⟩=[69,69]from rfl,(nS 69 (by decide) (by decide) (iM 69 eY))];exact dE (.cons ceE (.cons ceE .nil)) _ hk
theorem aGj(t:T)(a:t.op=39)(hn:t.n=1)(hm:t.m≠1)(hk:∀k∈t.kids,OkF k):bD t=eA t:=by
 have e1:bD t=dS (eK [ofT [31,30],DW]) t.kids:=by
  unfold bD;rw[if_neg (by omega)];unfold exB
  (repeat first|rw[if_pos (by omega)]|rw[if_neg (by omega)])
  unfold rC
  (repeat first|rw[if_pos (by omega)]|rw[if_neg (by omega)])
  unfold pO
  (repeat rw[if_neg (by omega)])
 have e2:bO t=⟨#[107,103]⟩:=by
  unfold bO
  (repeat rw[if_neg (by omega)])
  unfold kA
  (repeat first|rw[if_pos (by omega)]|rw[if_neg (by omega)])
  unfold tU
  (repeat first|rw[if_pos (by omega)]|rw[if_neg (by omega)])
  unfold pP
  (repeat rw[if_neg (by omega)])
  rfl
 rw[e1,fL (by omega) (by omega) (by omega) e2 (by decide),show bl ⟨#[107,103]⟩=[107,103]from rfl,(nS 107 (by decide) (by decide) (iM 103 eY))];exact dE (.cons cek (.cons ceg .nil)) _ hk
theorem aGk(t:T)(a:t.op=39)(hn:t.n=1)(hm:t.m=1)(hk:∀k∈t.kids,OkF k):bD t=eA t:=by
 have e1:bD t=dS (eK [bT,DW]) t.kids:=by
  unfold bD;rw[if_neg (by omega)];unfold exB
  (repeat first|rw[if_pos (by omega)]|rw[if_neg (by omega)])
  unfold rC
  (repeat first|rw[if_pos (by omega)]|rw[if_neg (by omega)])
  unfold pO
  (repeat rw[if_pos (by omega)])
 have e2:bO t=⟨#[69,103]⟩:=by
  unfold bO
  (repeat rw[if_neg (by omega)])
  unfold kA
  (repeat first|rw[if_pos (by omega)]|rw[if_neg (by omega)])
  unfold tU
  (repeat first|rw[if_pos (by omega)]|rw[if_neg (by omega)])
  unfold pP
  (repeat rw[if_pos (by omega)])
  rfl
 rw[e1,fL (by omega) (by omega) (by omega) e2 (by decide),show bl ⟨#[69,103]⟩=[69,103]from rfl,(nS 69 (by decide) (by decide) (iM 103 eY))];exact dE (.cons ceE (.cons ceg .nil)) _ hk
theorem aGh(t:T)(a:t.op=39)(hn:t.n=2)(hm:t.m≠1)(hk:∀k∈t.kids,OkF k):bD t=eA t:=by
 have e1:bD t=dS (eK [ofT [31,30],zB]) t.kids:=by
  unfold bD;rw[if_neg (by omega)];unfold exB
  (repeat first|rw[if_pos (by omega)]|rw[if_neg (by omega)])
  unfold rC
  (repeat first|rw[if_pos (by omega)]|rw[if_neg (by omega)])
  unfold pO
  (repeat rw[if_neg (by omega)])
 have e2:bO t=⟨#[107,115]⟩:=by
  unfold bO
  (repeat rw[if_neg (by omega)])
  unfold kA
  (repeat first|rw[if_pos (by omega)]|rw[if_neg (by omega)])
  unfold tU
  (repeat first|rw[if_pos (by omega)]|rw[if_neg (by omega)])
  unfold pP
  (repeat rw[if_neg (by omega)])
  rfl
 rw[e1,fL (by omega) (by omega) (by omega) e2 (by decide),show bl ⟨#[107,115]⟩=[107,115]from rfl,(nS 107 (by decide) (by decide) (iM 115 eY))];exact dE (.cons cek (.cons ces .nil)) _ hk
theorem aGi(t:T)(a:t.op=39)(hn:t.n=2)(hm:t.m=1)(hk:∀k∈t.kids,OkF k):bD t=eA t:=by
 have e1:bD t=dS (eK [bT,zB]) t.kids:=by
  unfold bD;rw[if_neg (by omega)];unfold exB
  (repeat first|rw[if_pos (by omega)]|rw[if_neg (by omega)])
  unfold rC
  (repeat first|rw[if_pos (by omega)]|rw[if_neg (by omega)])
  unfold pO
  (repeat rw[if_pos (by omega)])
 have e2:bO t=⟨#[69,115]⟩:=by
  unfold bO
  (repeat rw[if_neg (by omega)])
  unfold kA
  (repeat first|rw[if_pos (by omega)]|rw[if_neg (by omega)])
  unfold tU
  (repeat first|rw[if_pos (by omega)]|rw[if_neg (by omega)])
  unfold pP
  (repeat rw[if_pos (by omega)])
  rfl
 rw[e1,fL (by omega) (by omega) (by omega) e2 (by decide),show bl ⟨#[69,115]⟩=[69,115]from rfl,(nS 69 (by decide) (by decide) (iM 115 eY))];exact dE (.cons ceE (.cons ces .nil)) _ hk
theorem aGf(t:T)(a:t.op=39)(hn:t.n=5)(hm:t.m≠1)(hk:∀k∈t.kids,OkF k):bD t=eA t:=by
 have e1:bD t=dS (eK [ofT [31,30],CS]) t.kids:=by
  unfold bD;rw[if_neg (by omega)];unfold exB
  (repeat first|rw[if_pos (by omega)]|rw[if_neg (by omega)])
  unfold rC
  (repeat first|rw[if_pos (by omega)]|rw[if_neg (by omega)])
  unfold pO
  (repeat rw[if_neg (by omega)])
 have e2:bO t=⟨#[107,109]⟩:=by
  unfold bO
  (repeat rw[if_neg (by omega)])
  unfold kA
  (repeat first|rw[if_pos (by omega)]|rw[if_neg (by omega)])
  unfold tU
  (repeat first|rw[if_pos (by omega)]|rw[if_neg (by omega)])
  unfold pP
  (repeat rw[if_neg (by omega)])
  rfl
 rw[e1,fL (by omega) (by omega) (by omega) e2 (by decide),show bl ⟨#[107,109]⟩=[107,109]from rfl,(nS 107 (by decide) (by decide) (iM 109 eY))];exact dE (.cons cek (.cons cem .nil)) _ hk
theorem aGg(t:T)(a:t.op=39)(hn:t.n=5)(hm:t.m=1)(hk:∀k∈t.kids,OkF k):bD t=eA t:=by
 have e1:bD t=dS (eK [bT,CS]) t.kids:=by
  unfold bD;rw[if_neg (by omega)];unfold exB
  (repeat first|rw[if_pos (by omega)]|rw[if_neg (by omega)])
  unfold rC
  (repeat first|rw[if_pos (by omega)]|rw[if_neg (by omega)])
  unfold pO
  (repeat rw[if_pos (by omega)])
 have e2:bO t=⟨#[69,109]⟩:=by
  unfold bO
  (repeat rw[if_neg (by omega)])
  unfold kA
  (repeat first|rw[if_pos (by omega)]|rw[if_neg (by omega)])
  unfold tU
  (repeat first|rw[if_pos (by omega)]|rw[if_neg (by omega)])
  unfold pP
  (repeat rw[if_pos (by omega)])
  rfl
 rw[e1,fL (by omega) (by omega) (by omega) e2 (by decide),show bl ⟨#[69,109]⟩=[69,109]from rfl,(nS 69 (by decide) (by decide) (iM 109 eY))];exact dE (.cons ceE (.cons cem .nil)) _ hk
theorem YD(t:T)(a:t.op=39)(hn:t.n=3)(hk:∀k∈t.kids,OkF k):bD t=eA t:=by
 have e1:bD t=dS (eK [oK]) t.kids:=by
  unfold bD;rw[if_neg (by omega)];unfold exB
  (repeat first|rw[if_pos (by omega)]|rw[if_neg (by omega)])
  unfold rC
  (repeat first|rw[if_pos (by omega)]|rw[if_neg (by omega)])
 have e2:bO t=⟨#[119]⟩:=by
  unfold bO
  (repeat rw[if_neg (by omega)])
  unfold kA
  (repeat first|rw[if_pos (by omega)]|rw[if_neg (by omega)])
  unfold tU
  (repeat first|rw[if_pos (by omega)]|rw[if_neg (by omega)])
 rw[e1,fL (by omega) (by omega) (by omega) e2 (by decide),show bl ⟨#[119]⟩=[119]from rfl,(iM 119 eY)];exact dE (.cons cew .nil) _ hk
theorem YC(t:T)(a:t.op=39)(hn:t.n=4)(hk:∀k∈t.kids,OkF k):bD t=eA t:=by
 have e1:bD t=dS (eK [bT]) t.kids:=by
  unfold bD;rw[if_neg (by omega)];unfold exB
  (repeat first|rw[if_pos (by omega)]|rw[if_neg (by omega)])
  unfold rC
  (repeat rw[if_neg (by omega)])
 have e2:bO t=⟨#[69]⟩:=by
  unfold bO
  (repeat rw[if_neg (by omega)])
  unfold kA
  (repeat first|rw[if_pos (by omega)]|rw[if_neg (by omega)])
  unfold tU
  (repeat first|rw[if_pos (by omega)]|rw[if_neg (by omega)])
 rw[e1,fL (by omega) (by omega) (by omega) e2 (by decide),show bl ⟨#[69]⟩=[69]from rfl,(iM 69 eY)];exact dE (.cons ceE .nil) _ hk
end
end Go.Proofs.YtlllalmkkaolfaaGreatDoor
namespace Go.Vcg
section
open Go.RowKit
end
section
open Go.RowKit
end
end Go.Vcg
namespace Go.Proofs.YtlllalmkkaolfaaGreatDoor
open Go.RowKit Go.Vcg
namespace T
def AR(l:List Nat):Nat:=l.foldr max 0
def depth:T→Nat|mk _ _ _ _ _ ks=>1+AR (ks.attach.map fun⟨k,_⟩=>k.depth)
theorem OG(t:T):t.depth=1+AR (t.kids.map depth):=by
 cases t with
 |mk o a n m s ks=>rw[depth];simp[kids]
theorem aEo{l:List Nat}{n:Nat}(h:∀x∈l,x≤n):AR l≤n:=by
 induction l with
 |nil=>exact aN _
 | cons y l ih=>
   show max y (AR l)≤n
   have h1:=h y (aE ..);have h2:=ih fun x a=>h x (bP a);omega
theorem OF:∀(n:Nat) (t:T),t.size≤n→t.depth≤t.size
 |0,t,h=>by rw[size_eq]at h;omega
 | n+1,t,h=>by
   rw[OG];have:AR (t.kids.map depth)≤(t.kids.map size).sum:=aEo fun x a=>by obtain⟨k,hk,rfl⟩:=List.mem_map.1 a;obtain⟨i,hi⟩:=List.mem_iff_getElem?.1 hk;have h1:=fY hi;have h2:=OF n k (by omega);have:=eL (List.mem_map.2 ⟨k,hk,rfl⟩:k.size∈t.kids.map size);omega
   rw[size_eq];omega
end T
theorem T.aJg(t:T):t.kids.length<t.size:=by
 rw[T.size_eq];have:∀l:List T,l.length≤(l.map T.size).sum:=fun l=>by
  induction l with
  |nil=>simp
  | cons a r ih=>
    have:1≤a.size:=by rw[T.size_eq];omega
    simp;omega
 have:=this t.kids;omega
attribute [local irreducible] G GC GQ GA eV GI Calls IntKind.wrap Int.decLt Int.decLe
end Go.Proofs.YtlllalmkkaolfaaGreatDoor
