/- fits: whether children match a row. -/
import Derived.Test.YtlllalmkkaolfaaGreatDoorUae
set_option maxRecDepth 20000
set_option maxHeartbeats 2000000
namespace Go.Proofs.YtlllalmkkaolfaaGreatDoor
section
open Go.RowKit Go.Vcg
theorem KR.DA{μ:Mem}{ks:List T}{A:Option Addr}{n c:Nat}(h:KR μ ks (.slice A n c))(hn:1≤n):KR μ (ks.drop 1) (.slice (if c=1 then A else A.map (·.add (1*6))) (n-1) (c-1)):=by
 cases h with
 | mk _ A c vs hcap hcell hone hsub=>
   have e:(ks.drop 1).length=ks.length-1:=by simp
   have h0:∀(i:Nat) (t:T),(ks.drop 1)[i]? =some t→ks[1+i]? =some t:=fun i t hi=>by simpa[jR]using hi
   have:=KR.mk (μ:=μ) (ks.drop 1) (if c=1 then A else A.map (·.add (1*6))) (c-1) (fun i=>vs (1+i)) (by omega) (fun i t hi=>?_) (fun i t hi=>hone _ t (h0 i t hi)) (fun i t hi=>hsub _ t (h0 i t hi))
   ·rw[e]at this;exact this
   ·obtain⟨a,e,hc⟩:=hcell _ t (h0 i t hi);have:1+i<ks.length:=(List.getElem?_eq_some_iff.1 (h0 i t hi)).1;rw[if_neg (by omega),e];refine⟨_,rfl,?_⟩;rw[oD,←eI];exact hc
def oC(p:T→Bool)(m:Int):Nat→List T→Nat×List T
 |n,[]=>(n,[])
 |n,k::r=>if p k=true∧(n=0∨m=2)then oC p m (n+1) r else(n,k::r)
def dS:List ((T→Bool)×Int)→List T→Bool
 |[],l=>decide (l.length=0)
 |(p,m)::r,l=>if(oC p m 0 l).1=0∧m=0 then false else dS r (oC p m 0 l).2
theorem sL{α:Type}{l:List α}{j:Nat}{t:α}(h:l[j]? =some t):l.drop j=t::l.drop (j+1):=by
 obtain⟨hlt,e⟩:=List.getElem?_eq_some_iff.1 h;rw[←e,List.getElem_cons_drop]
attribute [local irreducible] G GC GQ GA eV Calls IntKind.wrap Int.decLt Int.decLe
theorem aGz(parts:List (Value×Int))(rows:List ((T→Bool)×Int))(ks:List T)(A B:Option Addr)(n c m d:Nat)(w:World)(μ:Mem)(hμ:MOk μ w)(hk:KR μ ks (.slice A n c))(ap:ks.length=n)(hn:n≤100000)(hS:Sl qO 2 μ B m parts)(hm:m≤1000)(ba:rows.length=m)(ai:∀(i:Nat) (x:Value×Int) (y:(T→Bool)×Int),parts[i]? =some x→rows[i]? =some y→x.2=y.2∧Cls μ x.1 y.1)(ay:∀k∈ks,T.size k≤100000∧k.s.size≤65536):
 bC 124 #[.slice A n c,.slice B m d] w (.bool (dS rows ks)):=by
 refine aF Tryz.func124 rfl Tryz.ntmps124 (by simp) hμ ?_;generalize hR:dS rows ks=R;try repeat' (refine KZ ?_)
 refine cD (ι:=Nat×Nat×Option Addr×Nat) (fun i=>i.1≤m∧i.2.1≤n∧KR μ (ks.drop i.2.1) (.slice i.2.2.1 (n-i.2.1) i.2.2.2)∧dS (rows.drop i.1) (ks.drop i.2.1)=R) (fun i=>m-i.1) (fun _=>μ) (fun i=>[(10,.int .i64 i.1),(9,.int .i64 m),(8,.slice B m d),(0,.slice i.2.2.1 (n-i.2.1) i.2.2.2)]) (fun _=>[]) (0,0,A,c) ⟨by simp,by simp,by simpa using hk,by simpa using hR⟩ (fun a w hs=>J6 hs) ?_;rintro⟨i,j,Aj,cj⟩ ⟨hi,hj,aq,aa⟩;dsimp only at hi hj aq aa⊢;by_cases hlt:i<m
 ·obtain⟨ad,⟨v,mm⟩,rfl,hx,av⟩:=hS.get hlt;have hy:rows[i]? =some rows[i]:=aA (by omega);generalize rows[i]=y at hy;obtain⟨p,mm'⟩:=y;obtain⟨he,ah⟩:=ai i _ _ hx hy;dsimp only at he ah;subst he;obtain⟨f,cap,rfl,a8,hf⟩:=ah;rw[sL hy]at aa;try repeat' (first|refine KO ?_|(refine KV (b:=by first|exact U1 i|exact U4 av) (c:=?_))|refine KZ ?_|refine NB fun b=>?_)
  refine cD (ι:=Nat×Nat×Option Addr×Nat) (fun q=>q.1≤q.2.1∧q.2.1≤n∧KR μ (ks.drop q.2.1) (.slice q.2.2.1 (n-q.2.1) q.2.2.2)∧oC p mm q.1 (ks.drop q.2.1)=oC p mm 0 (ks.drop j)) (fun q=>n-q.2.1) (fun _=>μ) (fun q=>[(7,.int .i64 q.1),(6,.pointer (some ⟨b,0,none⟩)),(10,.int .i64 i),(9,.int .i64 m),(8,.slice (some ad) m d),(0,.slice q.2.2.1 (n-q.2.1) q.2.2.2)]) (fun _=>[.inl ⟨b,150,2,idx 0 [.func (.func f) #[] cap.toArray,.int .i64 mm]⟩]) (0,j,Aj,cj) ⟨aN _,hj,aq,rfl⟩ (fun a w hs=>J5 hs) ?_;rintro⟨cnt,j2,A2,c2⟩ ⟨a1,af,z,al⟩;dsimp only at a1 af z al⊢;have ag:∀l,oC p mm cnt (ks.drop j2)=(cnt,l)→l=ks.drop j2→(if cnt=0∧mm=0 then false else dS (rows.drop (i+1)) (ks.drop j2))=R:=fun l h hl=>by rw[dS,←al,h,hl]at aa;exact aa
  by_cases a7:j2<n
  ·have ak:ks[j2]? =some ks[j2]:=aA (by omega);generalize ks[j2]=t at ak;have r:=sL ak;have ao:=z.DA (by omega);rw[lC]at ao;obtain⟨A',c',e,aw,ar⟩:=z.form;have az:(ks.drop j2).length=n-j2:=by rw[dA,ap]
   rw[az]at e aw;cases e;obtain⟨ad2,x,rfl,ae,bb,ax⟩:=ar 0 t (by rw[r];rfl);have an:=ay t (aB ak);have g:=fun w μc hw (hle:MLe μ μc)=>hf t x w μc hw hle (ax.mono hle) an.1 an.2;by_cases ab:p t=true∧(cnt=0∨mm=2)
   ·have u:oC p mm (cnt+1) (ks.drop (j2+1))=oC p mm 0 (ks.drop j):=by rw[←al,r,oC,if_pos ab]
    rw[ab.1]at g;have au:=ab.2;try repeat' (refine KZ ?_)
    refine aZ 20 _ (by kernel_rfl) rfl (aD aT) ?_;all_goals(refine DD 0 ?_;refine D1 1 ?_;refine D1 2 ?_;refine DD 3 ?_)
    all_goals(try(refine D7 4 ?_;(repeat' (refine KO ?_))))
    all_goals(refine D1 4 ?_;refine DD 5 ?_;refine DD 6 ?_;refine D2 7 rfl (by exact U1 0) ?_;refine D2 8 rfl (by exact U4 ae) ?_)
    all_goals(refine D3 9 ?_;refine D5 ?_;(with_reducible apply C1);exact rfl;exact EN;exact fun w μc hw o=>g w μc hw o.le;refine D9 ?_)
    all_goals(refine DD 10 ?_;refine DD 11 ?_;(try refine D7 12 ?_);refine DD 12 ?_;refine D1 13 ?_;refine DD 14 ?_)
    all_goals(try(refine D7 15 ?_;(repeat' (refine KB ?_ ?_<;>intro hp))))
    all_goals(refine D1 15 ?_;(first|refine D1 16 ?_|refine DD 16 ?_);refine D1 17 ?_;refine DD 18 ?_;refine DD 19 ?_;refine D8 ?_)
    all_goals
     try repeat' (first|refine KO ?_|(refine KV (b:=by((with_reducible apply lL 1);(iterate 5 exact rfl);omega)) (c:=?_))|refine KZ ?_)
    all_goals first
     |exact J2 (cnt+1,j2+1,_,_) ⟨by show cnt+1≤j2+1;omega,by show j2+1≤n;omega,ao,u⟩ (by show n- (j2+1)<n-j2;omega)
     |(exfalso;omega)
   ·have u:=ag _ (by rw[r,oC,if_neg ab]) r.symm;cases aj:p t
    ·rw[aj]at g;by_cases hz:cnt=0∧mm=0
     ·rw[if_pos hz]at u;try repeat' (refine KZ ?_)
      refine aZ 20 _ (by kernel_rfl) rfl (aD aT) ?_;all_goals(refine DD 0 ?_;refine D1 1 ?_;refine D1 2 ?_;refine DD 3 ?_)
      all_goals(try(refine D7 4 ?_;(repeat' (refine KO ?_))))
      all_goals(refine D1 4 ?_;refine DD 5 ?_;refine DD 6 ?_;refine D2 7 rfl (by exact U1 0) ?_;refine D2 8 rfl (by exact U4 ae) ?_)
      all_goals(refine D3 9 ?_;refine D5 ?_;(with_reducible apply C1);exact rfl;exact EN;exact fun w μc hw o=>g w μc hw o.le;refine D9 ?_)
      all_goals(refine DD 10 ?_;refine DD 11 ?_;(try refine D7 12 ?_);refine DD 12 ?_;refine D1 13 ?_;refine DD 14 ?_;(try refine D7 15 ?_);refine D1 15 ?_;refine D1 16 ?_;refine D1 17 ?_;refine DD 18 ?_;refine DD 19 ?_;refine D8 ?_)
      all_goals
       try repeat' (refine KZ ?_)
      all_goals first
       |exact aQ rfl rfl (congrArg _ u)
       |(exfalso;omega)
     ·rw[if_neg hz]at u;try repeat' (refine KZ ?_)
      refine aZ 20 _ (by kernel_rfl) rfl (aD aT) ?_;all_goals(refine DD 0 ?_;refine D1 1 ?_;refine D1 2 ?_;refine DD 3 ?_)
      all_goals(try(refine D7 4 ?_;(repeat' (refine KO ?_))))
      all_goals(refine D1 4 ?_;refine DD 5 ?_;refine DD 6 ?_;refine D2 7 rfl (by exact U1 0) ?_;refine D2 8 rfl (by exact U4 ae) ?_)
      all_goals(refine D3 9 ?_;refine D5 ?_;(with_reducible apply C1);exact rfl;exact EN;exact fun w μc hw o=>g w μc hw o.le;refine D9 ?_)
      all_goals(refine DD 10 ?_;refine DD 11 ?_;(try refine D7 12 ?_);refine DD 12 ?_;refine D1 13 ?_;refine DD 14 ?_;(try refine D7 15 ?_);refine D1 15 ?_;refine D1 16 ?_;refine D1 17 ?_;refine DD 18 ?_;refine DD 19 ?_;refine D8 ?_)
      all_goals
       try repeat' (first|refine KZ ?_|(refine KB ?_ ?_<;>intro hp))
      all_goals first
       |exact J2 (i+1,j2,_,_) ⟨by show i+1≤m;omega,af,z,u⟩ (by show m- (i+1)<m-i;omega)
       |(exfalso;omega)
    ·rw[aj]at g;have au:¬(cnt=0∨mm=2):=fun h=>ab ⟨aj,h⟩;by_cases hz:cnt=0∧mm=0
     ·rw[if_pos hz]at u;try repeat' (refine KZ ?_)
      refine aZ 20 _ (by kernel_rfl) rfl (aD aT) ?_;all_goals(refine DD 0 ?_;refine D1 1 ?_;refine D1 2 ?_;refine DD 3 ?_)
      all_goals(try(refine D7 4 ?_;(repeat' (refine KO ?_))))
      all_goals(refine D1 4 ?_;refine DD 5 ?_;refine DD 6 ?_;refine D2 7 rfl (by exact U1 0) ?_;refine D2 8 rfl (by exact U4 ae) ?_)
      all_goals(refine D3 9 ?_;refine D5 ?_;(with_reducible apply C1);exact rfl;exact EN;exact fun w μc hw o=>g w μc hw o.le;refine D9 ?_)
      all_goals(refine DD 10 ?_;refine DD 11 ?_;(try refine D7 12 ?_);refine DD 12 ?_;refine D1 13 ?_;refine DD 14 ?_)
      all_goals(try(refine D7 15 ?_;(repeat' (refine KO ?_))))
      all_goals(refine D1 15 ?_;refine D1 16 ?_;refine D1 17 ?_;refine DD 18 ?_;refine DD 19 ?_;refine D8 ?_)
      all_goals
       try repeat' (refine KZ ?_)
      all_goals first
       |exact aQ rfl rfl (congrArg _ u)
       |(exfalso;omega)
     ·rw[if_neg hz]at u;try repeat' (refine KZ ?_)
      refine aZ 20 _ (by kernel_rfl) rfl (aD aT) ?_;all_goals(refine DD 0 ?_;refine D1 1 ?_;refine D1 2 ?_;refine DD 3 ?_)
      all_goals(try(refine D7 4 ?_;(repeat' (refine KO ?_))))
      all_goals(refine D1 4 ?_;refine DD 5 ?_;refine DD 6 ?_;refine D2 7 rfl (by exact U1 0) ?_;refine D2 8 rfl (by exact U4 ae) ?_)
      all_goals(refine D3 9 ?_;refine D5 ?_;(with_reducible apply C1);exact rfl;exact EN;exact fun w μc hw o=>g w μc hw o.le;refine D9 ?_)
      all_goals(refine DD 10 ?_;refine DD 11 ?_;(try refine D7 12 ?_);refine DD 12 ?_;refine D1 13 ?_;refine DD 14 ?_)
      all_goals(try(refine D7 15 ?_;(repeat' (refine KO ?_))))
      all_goals(refine D1 15 ?_;refine DD 16 ?_;refine D1 17 ?_;refine DD 18 ?_;refine DD 19 ?_;refine D8 ?_)
      all_goals
       try repeat' (refine KZ ?_)
      all_goals first
       |exact J2 (i+1,j2,_,_) ⟨by show i+1≤m;omega,af,z,u⟩ (by show m- (i+1)<m-i;omega)
       |(exfalso;omega)
  ·obtain rfl:j2=n:=by omega
   have r:ks.drop j2=[]:=cB (by omega);have u:=ag _ (by rw[r,oC]) r.symm;by_cases hz:cnt=0∧mm=0
   ·rw[if_pos hz]at u;try repeat' (refine KZ ?_)
    refine aZ 20 _ (by kernel_rfl) rfl (aD aT) ?_;all_goals(refine DD 0 ?_;refine D1 1 ?_;refine D1 2 ?_;refine DD 3 ?_)
    all_goals(try(refine D7 4 ?_;(repeat' (refine KO ?_))))
    all_goals(refine D1 4 ?_;refine D1 5 ?_;refine DD 6 ?_;refine D1 7 ?_;refine D1 8 ?_;refine D3 9 (D6 ?_);refine DD 10 ?_;refine DD 11 ?_)
    all_goals((try refine D7 12 ?_);refine DD 12 ?_;refine D1 13 ?_;refine DD 14 ?_;(try refine D7 15 ?_);refine D1 15 ?_;refine D1 16 ?_;refine D1 17 ?_;refine DD 18 ?_;refine DD 19 ?_;refine D8 ?_)
    all_goals
     try repeat' (refine KZ ?_)
    all_goals first
     |exact aQ rfl rfl (congrArg _ u)
     |(exfalso;omega)
   ·rw[if_neg hz]at u;try repeat' (refine KZ ?_)
    refine aZ 20 _ (by kernel_rfl) rfl (aD aT) ?_;all_goals(refine DD 0 ?_;refine D1 1 ?_;refine D1 2 ?_;refine DD 3 ?_)
    all_goals(try(refine D7 4 ?_;(repeat' (refine KO ?_))))
    all_goals(refine D1 4 ?_;refine D1 5 ?_;refine DD 6 ?_;refine D1 7 ?_;refine D1 8 ?_;refine D3 9 (D6 ?_);refine DD 10 ?_;refine DD 11 ?_)
    all_goals((try refine D7 12 ?_);refine DD 12 ?_;refine D1 13 ?_;refine DD 14 ?_;(try refine D7 15 ?_);refine D1 15 ?_;refine D1 16 ?_;refine D1 17 ?_;refine DD 18 ?_;refine DD 19 ?_;refine D8 ?_)
    all_goals
     try repeat' (first|refine KZ ?_|(refine KB ?_ ?_<;>intro hp))
    all_goals first
     |exact J2 (i+1,j2,_,_) ⟨by show i+1≤m;omega,af,z,u⟩ (by show m- (i+1)<m-i;omega)
     |(exfalso;omega)
 ·obtain rfl:i=m:=by omega
  rw[cB (by omega)]at aa;have a6:decide (n-j=0)=R:=by rw[←aa,←ap,←dA];rfl
  try repeat' (refine KZ ?_)
  refine aQ rfl rfl ?_;rw[←a6];congr 1;simp;try omega
end
section
open Go.RowKit Go.Vcg
def xN(t:T):T→Bool:=if gL t 128=true then bT else ofT [6]
def pO(t:T):T→Bool:=if t.m=1 then bT else ofT [31,30]
def GS:T→Bool:=eiT [bT,ofT [41]]
theorem Cls.form{μ:Mem}{v:Value}{p:T→Bool}(h:Cls μ v p):∃(f:FuncId) (cap:List Value),v=.func (.func f) #[] cap.toArray:=let ⟨f,cap,e,_⟩:=h;⟨f,cap,e⟩
theorem OQ(μ:Mem):Cls μ (.func (.func 121) #[] #[]) bT:=Cls.of tR (by kernel_rfl) μ
attribute [local irreducible] G GC GQ GA eV Calls IntKind.wrap Int.decLt Int.decLe
theorem aHf(t:T)(u:Value)(w:World)(μ:Mem)(hμ:MOk μ w)(hk:KR μ t.kids u)(hs:t.size≤100000):
 Calls Tryz.prog 132 #[.agg (cO t u).toArray] w fun e w' =>∃v μ',e=.returned v∧vI w w' μ μ' ∧PA (xN t) μ' v:=by
 have ho:=hk.one;refine aF Tryz.func132 rfl Tryz.ntmps132 (by simp) hμ ?_;unfold xN;cases j:gL t 128
 ·rw[if_neg (by simp)];try repeat' (first|refine KO ?_|refine K2 147 (fun w μc hw c=>j▸qP 128 t u w μc hw (hk.mono c) hs) ?_|(refine CF 122 ?_;(with_reducible apply dI);exact rfl;intro μs h f;(with_reducible apply bN);(iterate 3 exact rfl);exact EN;exact fun w hw=>eG [6] _ _ _ w _ hw (cR f rfl (by simp) (by repeat first|exact cH|refine bL rfl ?_)) (by omega);rintro v3 μ3 i g)|refine KZ ?_|refine NB fun b=>?_)
  exact sC rfl (cX rfl) (fun μ' a hL=>Cls.mono g a)
 ·rw[if_pos rfl];try repeat' (first|refine KO ?_|refine K2 147 (fun w μc hw c=>j▸qP 128 t u w μc hw (hk.mono c) hs) ?_|refine KZ ?_|refine NB fun b=>?_)
  exact sC rfl (cX rfl) (fun μ' a hL=>OQ μ')
theorem zY(t:T)(u:Value)(w:World)(μ:Mem)(hμ:MOk μ w)(hk:KR μ t.kids u):
 Calls Tryz.prog 156 #[.agg (cO t u).toArray] w fun e w' =>∃v μ',e=.returned v∧vI w w' μ μ' ∧PA (pO t) μ' v:=by
 have ho:=hk.one;refine aF Tryz.func156 rfl Tryz.ntmps156 (by simp) hμ ?_;unfold pO;by_cases h1:t.m=1
 ·rw[if_pos h1];try repeat' (first|refine KZ ?_|refine NB fun b=>?_)
  exact sC rfl (cX rfl) (fun μ' a hL=>OQ μ')
 ·rw[if_neg h1];try repeat' (first|refine KO ?_|(refine CF 122 ?_;(with_reducible apply dI);exact rfl;intro μs g c;(with_reducible apply bN);(iterate 3 exact rfl);exact EN;exact fun w hw=>eG [31,30] _ _ _ w _ hw (cR c rfl (by simp) (by repeat first|exact cH|refine bL rfl ?_)) (by omega);rintro v3 μ3 h f)|refine KZ ?_|refine NB fun b=>?_)
  exact sC rfl (cX rfl) (fun μ' a hL=>Cls.mono f a)
theorem aHj(w:World)(μ:Mem)(hμ:MOk μ w):
 Calls Tryz.prog 128 #[] w fun e w' =>∃v μ',e=.returned v∧vI w w' μ μ' ∧PA GS μ' v:=by
 refine aF Tryz.func128 rfl Tryz.ntmps128 (by simp) hμ ?_;try repeat' (first|refine KO ?_|(refine CF 122 ?_;(with_reducible apply dI);exact rfl;intro μs j c;(with_reducible apply bN);(iterate 3 exact rfl);exact EN;exact fun w hw=>eG [41] _ _ _ w _ hw (cR c rfl (by simp) (by repeat first|exact cH|refine bL rfl ?_)) (by omega);rintro v3 μ3 o h;obtain⟨f3,cap3,rfl⟩:=Cls.form h)|(refine CF 120 ?_;(with_reducible apply dI);exact rfl;intro μt f a;(with_reducible apply bN);(iterate 3 exact rfl);exact EN;exact fun w hw=>jV [.func (.func 121) #[] #[],.func (.func f3) #[] cap3.toArray] [bT,ofT [41]] _ _ _ w _ hw (cR a rfl (by simp) (by repeat first|exact cH|refine bL rfl ?_)) (cE.cons (OQ _) (cE.cons (Cls.mono h f) (cE.nil _))) (by omega);rintro v4 μ4 l i)|refine KZ ?_|refine NB fun b=>?_)
 exact sC rfl (cX rfl) (fun μ' g hL=>Cls.mono i g)
end
section
open Go.RowKit Go.Vcg
def EX(i:Nat)(e:T→Bool)(t:T):Prop:=if i%2=0 then t.op=31 else e t=true
def DJ(e:T→Bool)(ks:List T):Prop:=ks.length%2=1∧∀(i:Nat) (t:T),ks[i]? =some t→EX i e t
noncomputable def nR (e:T→Bool) (ks:List T):Bool:=dB (DJ e ks)
theorem EY{e:T→Bool}{ks:List T}(h:DJ e ks):nR e ks=true:=by unfold nR;exact aLk h
theorem wR{e:T→Bool}{ks:List T}(h:¬DJ e ks):nR e ks=false:=by unfold nR;exact aLl h
inductive qJ:T→Prop
 |one {t:T} (h:iC t=true) (hn:t.n=1):qJ t
 |more {t k:T} (h:iC t=true) (hk:t.kids[0]? =some k) (hc:qJ k):qJ t
noncomputable def chB (t:T):Bool:=dB (qJ t)
theorem SH{t:T}(h:qJ t):chB t=true:=by unfold chB;exact aLk h
theorem DE{t:T}(h:¬qJ t):chB t=false:=by unfold chB;exact aLl h
theorem KU{t:T}(h:iC t=false):¬qJ t:=fun hc=>by
 cases hc with
 |one h2 _=>rw[h]at h2;cases h2
 |more h2 _ _=>rw[h]at h2;cases h2
theorem aLr{t:T}(h:t.n≠1)(hk:t.kids[0]? =none):¬qJ t:=fun hc=>by
 cases hc with
 |one _ h2=>exact h h2
 |more _ h2 _=>rw[hk]at h2;cases h2
theorem VC{t k:T}(hl:iC t=true)(h:t.n≠1)(hk:t.kids[0]? =some k):qJ t↔qJ k:=by
 constructor
 ·intro hc;cases hc with
  |one _ h2=>exact absurd h2 h
  |more _ h2 h3=>rw[hk]at h2;cases h2;exact h3
 ·exact fun hc=>.more hl hk hc
noncomputable def sM (ks:List T):Bool:=match ks with|[k]=>chB k|_=>false
inductive Sh' :T→Prop
 |mk {t:T} (h:t.s.size≤65536) (hk:∀k∈t.kids,Sh' k):Sh' t
theorem Sh'.s{t:T}(h:Sh' t):t.s.size≤65536:=by cases h;assumption
theorem Sh'.kid{t k:T}(h:Sh' t)(hk:k∈t.kids):Sh' k:=by
 cases h with
 |mk _ h=>exact h k hk
attribute [local irreducible] nR chB G GC GQ GA eV Calls IntKind.wrap Int.decLt Int.decLe
theorem PF(ks:List T)(A:Option Addr)(n c:Nat)(w:World)(μ:Mem)(hμ:MOk μ w)(hk:KR μ ks (.slice A n c))(v:ks.length=n)(hn:n≤100000)(aa:∀k∈ks,T.size k≤100000∧k.s.size≤65536):
 bC 118 #[.slice A n c] w (.bool (nR bT ks)):=by
 refine aF Tryz.func118 rfl Tryz.ntmps118 (by simp) hμ ?_;have y:∀(i:Nat) (t:T),ks[i]? =some t→∃a u,A=some a∧gF μ (a.add (i*6)) (cO t u)∧u.oneCell' =true∧KR μ t.kids u:=by obtain⟨A',c',e,_,hg⟩:=hk.form;cases e;exact hg
 try repeat' (refine KZ ?_)
 refine cD (ι:=Nat) (fun i=>i≤n∧∀(j:Nat) (t:T),j<i→ks[j]? =some t→EX j bT t) (fun i=>n-i) (fun _=>μ) (fun i=>[(7,.int .i64 i),(6,.int .i64 n),(5,.slice A n c),(0,.slice A n c)]) (fun _=>[]) 0 ⟨by omega,fun j _ h=>absurd h (by omega)⟩ (fun a w hs=>J6 hs) ?_;rintro i ⟨hi,r⟩;by_cases hlt:i<n
 ·have o:ks[i]? =some ks[i]:=aA (by omega);generalize ks[i]=t at o;obtain⟨ad,x,rfl,hm,ho,z⟩:=y i t o;have q:=aa t (aB o);have hr:(i:Int).tmod 2=((i%2:Nat):Int):=rfl;have g:=fun w μc hw (hle:MLe μ μc)=>tR t x w μc hw (z.mono hle) q.1 q.2;by_cases f:EX i bT t
  ·have l:∀(j:Nat) (t:T),j<i+1→ks[j]? =some t→EX j bT t:=fun j t' hj ht=>by
    rcases dL j i with h|h
    ·exact r j t' h ht
    ·obtain rfl:j=i:=by omega
     rw[o]at ht;cases ht;exact f
   unfold EX at f;by_cases h2:i%2=0
   ·rw[if_pos h2]at f;try repeat' (first|refine KO ?_|(refine KV (b:=by first|exact U1 i|exact U4 hm) (c:=?_))|refine KZ ?_|refine NB fun b=>?_)
    all_goals first
     |exact J2 (i+1) ⟨by omega,l⟩ (by omega)
     |(exfalso;omega)
   ·rw[if_neg h2]at f;rw[f]at g;try repeat' (first|refine KO ?_|((with_reducible apply C1);exact rfl;exact EN;exact fun w μc hw p=>g w μc hw p.le)|(refine KV (b:=by first|exact U1 i|exact U4 hm) (c:=?_))|refine KZ ?_|refine NB fun b=>?_)
    all_goals first
     |exact J2 (i+1) ⟨by omega,l⟩ (by omega)
     |(exfalso;omega)
  ·rw[wR fun h=>f (h.2 i t o)];unfold EX at f;by_cases h2:i%2=0
   ·rw[if_pos h2]at f;try repeat' (first|refine KO ?_|(refine KV (b:=by first|exact U1 i|exact U4 hm) (c:=?_))|refine KZ ?_|refine NB fun b=>?_)
    all_goals first
     |exact aQ rfl rfl rfl
     |(exfalso;omega)
   ·rw[if_neg h2]at f;rw[Bool.not_eq_true _|>.mp f]at g;try repeat' (first|refine KO ?_|((with_reducible apply C1);exact rfl;exact EN;exact fun w μc hw p=>g w μc hw p.le)|(refine KV (b:=by first|exact U1 i|exact U4 hm) (c:=?_))|refine KZ ?_|refine NB fun b=>?_)
    all_goals first
     |exact aQ rfl rfl rfl
     |(exfalso;omega)
 ·obtain rfl:i=n:=by omega
  have hr:(i:Int).tmod 2=((i%2:Nat):Int):=rfl;have hg:nR bT ks=decide ((i:Int).tmod 2=1):=by
   by_cases h:i%2=1
   ·rw[EY ⟨by rw[v];exact h,fun j t hj=>r j t (by have:=(List.getElem?_eq_some_iff.1 hj).1;omega) hj⟩]
    symm
    rw[decide_eq_true_eq];omega
   ·rw[wR fun hf=>h (by rw[←v];exact hf.1)]
    symm
    rw[decide_eq_false_iff_not];omega
  rw[hg];try repeat' (refine KZ ?_)
  exact aQ rfl rfl rfl
structure ChS where
 bb:Nat
 t:T
 u:Value
theorem aCs(ks:List T)(A:Option Addr)(n c:Nat)(w:World)(μ:Mem)(hμ:MOk μ w)(hk:KR μ ks (.slice A n c))(af:ks.length=n)(hn:n≤100000)(v:∀k∈ks,T.size k≤100000∧Sh' k):
 bC 129 #[.slice A n c] w (.bool (sM ks)):=by
 refine aF Tryz.func129 rfl Tryz.ntmps129 (by simp) hμ ?_;by_cases h1:n=1
 ·subst h1;obtain⟨t0,rfl⟩:=List.length_eq_one_iff.1 af;obtain⟨A',c',e,_,i⟩:=hk.form;cases e;obtain⟨ad,x,rfl,hm,ho,z⟩:=i 0 t0 rfl;have p:=v t0 (aJ.2 rfl);have hg:sM [t0]=chB t0:=rfl;rw[hg];have f:=fun w μc hw (hle:MLe μ μc)=>xA t0 x w μc hw (z.mono hle) p.1 (p.2.s);cases hl:iC t0
  ·rw[DE (KU hl)];rw[hl]at f;try repeat' (first|refine KO ?_|((with_reducible apply C1);exact rfl;exact EN;exact fun w μc hw g=>f w μc hw g.le)|(refine KV (b:=by first|exact U1 0|exact U4 hm) (c:=?_)))
   all_goals exact aQ rfl rfl rfl
  ·rw [hl]at f;generalize o:chB t0=B;try repeat' (first|refine KO ?_|((with_reducible apply C1);exact rfl;exact EN;exact fun w μc hw g=>f w μc hw g.le)|(refine KV (b:=by first|exact U1 0|exact U4 hm) (c:=?_))|refine KZ ?_|refine NB fun b=>?_)
   refine cD (ι:=ChS) (fun j=>chB j.t=B∧KR μ j.t.kids j.u∧j.t.size≤100000∧Sh' j.t) (fun j=>j.t.size) (fun _=>μ) (fun j=>[(3,.pointer (some ⟨j.bb,0,none⟩))]) (fun j=>[.inl ⟨j.bb,24,6,idx 0 (cO j.t j.u)⟩]) ⟨b,t0,x⟩ ⟨o,z,p⟩ (fun a w hs=>J5 hs) ?_;clear f hl o p z ho hm i hk v;rintro⟨bb,t,u⟩ ⟨o,r,aa,y⟩;dsimp only at o r aa y⊢;have aj:=r.one;obtain⟨A2,c2,rfl,ai,i⟩:=r.form;have hlen:=eT t;have f:=fun w μc hw (hle:MLe μ μc)=>xA t _ w μc hw (r.mono hle) aa y.s;cases hl:iC t
   ·rw[DE (KU hl)]at o;subst o;rw[hl]at f;try repeat' (first|refine KZ ?_|((with_reducible apply C1);exact rfl;exact EN;exact fun w μc hw g=>f w μc hw g.le))
    all_goals exact aQ rfl rfl rfl
   ·rw [hl]at f;by_cases q:t.n=1
    ·rw[SH (.one hl q)]at o;subst o;try repeat' (first|refine KZ ?_|((with_reducible apply C1);exact rfl;exact EN;exact fun w μc hw g=>f w μc hw g.le))
     all_goals exact aQ rfl rfl rfl
    ·by_cases h0:t.kids.length=0
     ·rw[DE (aLr q (by rw[List.getElem?_eq_none_iff];omega))]at o;subst o;try repeat' (first|refine KZ ?_|((with_reducible apply C1);exact rfl;exact EN;exact fun w μc hw g=>f w μc hw g.le))
      all_goals exact aQ rfl rfl rfl
     ·have l:t.kids[0]? =some t.kids[0]:=aA (by omega);generalize t.kids[0]=k at l;obtain⟨ad2,x2,rfl,ag,ak,ae⟩:=i 0 k l;have v:=T.fY l;have ah:chB k=B:=by
       by_cases hc:qJ k
       ·rw[SH hc,←o,SH ((VC hl q l).2 hc)]
       ·rw[DE hc,←o,DE fun h=>hc ((VC hl q l).1 h)]
      have ab:=y.kid (aB l);try repeat' (first|refine KO ?_|((with_reducible apply C1);exact rfl;exact EN;exact fun w μc hw g=>f w μc hw g.le)|(refine KV (b:=by first|exact U1 0|exact U4 ag) (c:=?_))|refine KZ ?_|refine NB fun b=>?_)
      all_goals first
       |exact J2 ⟨_,k,x2⟩ ⟨ah,ae,(by show k.size≤100000;omega),ab⟩ v
       |(exfalso;omega)
 ·have hg:sM ks=false:=by
   unfold sM;split
   ·exact absurd af.symm h1
   ·rfl
  rw[hg];try repeat' (refine KZ ?_)
  all_goals exact aQ rfl rfl rfl
end
section
open Go.RowKit Go.Vcg
theorem cE.oV{μ:Mem}{vs:List Value}{ps:List (T→Bool)}(h:cE μ vs ps):∀v∈vs,∃(f:FuncId) (cap:List Value),v=.func (.func f) #[] cap.toArray:=fun v hv=>by
 obtain⟨i,hi⟩:=List.mem_iff_getElem?.1 hv;have hlt:=(List.getElem?_eq_some_iff.1 hi).1;have a:i<ps.length:=by rw[←h.1];exact hlt
 exact(h.2 i v ps[i] hi (aA a)).form
def Rws(μ:Mem)(parts:List (Value×Int))(rows:List ((T→Bool)×Int)):Prop:=parts.length=rows.length∧∀(i:Nat) (x:Value×Int) (y:(T→Bool)×Int),parts[i]? =some x→rows[i]? =some y→x.2=y.2∧Cls μ x.1 y.1
theorem Rws.nil(μ:Mem):Rws μ [] []:=⟨rfl,fun i x y h=>by simp at h⟩
theorem Rws.cons{μ:Mem}{v:Value}{p:T→Bool}{m:Int}{ps:List (Value×Int)}{rs:List ((T→Bool)×Int)}(h:Cls μ v p)(hr:Rws μ ps rs):Rws μ ((v,m)::ps) ((p,m)::rs):=
 ⟨by simp[hr.1],fun i x y b a=>by
   cases i with
   |zero=>simp at b a;subst b;subst a;exact⟨rfl,h⟩
   |succ i=>exact hr.2 i x y (by simpa using b) (by simpa using a)⟩
theorem Rws.each{μ:Mem}{vs:List Value}{ps:List (T→Bool)}(h:cE μ vs ps):Rws μ (vs.map fun v=>(v,(0:Int))) (ps.map fun p=>(p,(0:Int))):=
 ⟨by simp[h.1],fun i x y b a=>by
   rw[aX]at b a;cases hv:vs[i]? with
   |none=>rw[hv]at b;cases b
   | some v=>
     cases c:ps[i]? with
     |none=>rw[c]at a;cases a
     | some p=>
       rw[hv]at b;rw[c]at a;cases b;cases a;exact⟨rfl,h.2 i v p hv c⟩⟩
theorem pI(parts:List (Value×Int))(rows:List ((T→Bool)×Int))(ks:List T)(A B:Option Addr)(c m d:Nat)(w:World)(μ:Mem)(hμ:MOk μ w){n:Nat}(hk:KR μ ks (.slice A n c))(b:ks.length=n)(hn:n≤100000)(e:Sl qO 2 μ B m parts)(_hl:parts.length=m)(hm:m≤1000)(hr:Rws μ parts rows)(a:∀k∈ks,T.size k≤100000∧k.s.size≤65536):
 bC 124 #[.slice A n c,.slice B m d] w (.bool (dS rows ks)):=
 aGz parts rows ks A B n c m d w μ hμ hk b hn e hm (by rw[←hr.1];exact e.1) hr.2 a
def eK(ps:List (T→Bool)):List ((T→Bool)×Int):=ps.map fun p=>(p,(0:Int))
theorem gQ(vs:List Value)(ps:List (T→Bool))(ks:List T)(A B:Option Addr)(c m d:Nat)(w:World)(μ:Mem)(hμ:MOk μ w){n:Nat}(hk:KR μ ks (.slice A n c))(b:ks.length=n)(hn:n≤100000)(e:Sl qO 2 μ B m (vs.map fun v=>(v,(0:Int))))(_hl:vs.length=m)(hm:m≤1000)(hr:cE μ vs ps)(a:∀k∈ks,T.size k≤100000∧k.s.size≤65536):
 bC 124 #[.slice A n c,.slice B m d] w (.bool (dS (eK ps) ks)):=
 pI _ _ ks A B c m d w μ hμ hk b hn e (by simpa using _hl) hm (Rws.each hr) a
theorem jQ(μ:Mem):Cls μ (.func (.func 127) #[] #[]) dC:=Cls.of IH (by kernel_rfl) μ
theorem cF(μ:Mem):Cls μ (.func (.func 121) #[] #[]) bT:=Cls.of tR (by kernel_rfl) μ
theorem gG(μ:Mem):Cls μ (.func (.func 131) #[] #[]) fN:=Cls.of LM (by kernel_rfl) μ
theorem yJ(μ:Mem):Cls μ (.func (.func 126) #[] #[]) hH:=Cls.of II (by kernel_rfl) μ
theorem ZU(μ:Mem):Cls μ (.func (.func 133) #[] #[]) rR:=Cls.of aF7 (by kernel_rfl) μ
theorem OP(μ:Mem):Cls μ (.func (.func 157) #[] #[]) DW:=Cls.of YW (by kernel_rfl) μ
theorem ON(μ:Mem):Cls μ (.func (.func 158) #[] #[]) zB:=Cls.of WH (by kernel_rfl) μ
theorem OO(μ:Mem):Cls μ (.func (.func 159) #[] #[]) CS:=Cls.of XV (by kernel_rfl) μ
theorem SG(μ:Mem):Cls μ (.func (.func 160) #[] #[]) oK:=Cls.of aBl (by kernel_rfl) μ
def rS:T→Bool:=eiT [dC,ofT [63]]
def iA(t:T):Bool:=
 if t.op=60 then dS [(eiT [rS,ofT [40]],2),(ofT [64],1)] t.kids
 else if t.op=61 then dS [(ofT [62],2),(ofT [64],1)] t.kids
 else if t.op=62 then dS (eK [pO t,rS]) t.kids
 else if t.op=63 then dS (eK [dC,bT]) t.kids
 else if t.op=64 then dS (eK [dC]) t.kids
 else false
attribute [local irreducible] dS G GC GQ GA eV Calls IntKind.wrap Int.decLt Int.decLe
theorem PH(t:T)(u:Value)(w:World)(μ:Mem)(hμ:MOk μ w)(hk:KR μ t.kids u)(hs:t.size≤100000)(aa:∀k∈t.kids,T.size k≤100000∧k.s.size≤65536):
 bC 130 #[.agg (cO t u).toArray] w (.bool (iA t)):=by
 have ho:=hk.one;obtain⟨A,c,rfl,av,-⟩:=hk.form;have hlen:=eT t;have aw:∀{μc:Mem},MLe μ μc→KR μc t.kids (.slice A t.kids.length c):=fun h=>hk.mono h;refine aF Tryz.func130 rfl Tryz.ntmps130 (by simp) hμ ?_;unfold iA;by_cases ap:t.op=60
 ·rw[if_pos ap];try repeat' (first|refine KO ?_|(refine CF 122 ?_;(fail_if_success (have:=e));(with_reducible apply dI);exact rfl;intro μsa l i;(with_reducible apply bN);(iterate 3 exact rfl);exact EN;exact fun w hw=>eG [63] _ _ _ w _ hw (cR i rfl (by simp) (by repeat first|exact cH|refine bL rfl ?_)) (by omega);rintro va μa q e;obtain⟨fa,capa,rfl⟩:=Cls.form e)|(refine CF 120 ?_;(fail_if_success (have:=f));(with_reducible apply dI);exact rfl;intro μsi j g;(with_reducible apply bN);(iterate 3 exact rfl);exact EN;exact fun w hw=>jV [.func (.func 127) #[] #[],.func (.func fa) #[] capa.toArray] [dC,ofT [63]] _ _ _ w _ hw (cR g rfl (by simp) (by repeat first|exact cH|refine bL rfl ?_)) (cE.cons (jQ _) (cE.cons (Cls.mono e (by(repeat assumption))) (cE.nil _))) (by omega);rintro vi μi p f;obtain⟨fi,capi,rfl⟩:=Cls.form f)|(refine CF 122 ?_;(fail_if_success (have:=x));(with_reducible apply dI);exact rfl;intro μsq af z;(with_reducible apply bN);(iterate 3 exact rfl);exact EN;exact fun w hw=>eG [40] _ _ _ w _ hw (cR z rfl (by simp) (by repeat first|exact cH|refine bL rfl ?_)) (by omega);rintro vq μq aj x;obtain⟨fq,capq,rfl⟩:=Cls.form x)|(refine CF 122 ?_;(fail_if_success (have:=r));(with_reducible apply dI);exact rfl;intro μsr ae y;(with_reducible apply bN);(iterate 3 exact rfl);exact EN;exact fun w hw=>eG [64] _ _ _ w _ hw (cR y rfl (by simp) (by repeat first|exact cH|refine bL rfl ?_)) (by omega);rintro vr μr ai r;obtain⟨fr,capr,rfl⟩:=Cls.form r)|(refine CF 120 ?_;(fail_if_success (have:=ag));(with_reducible apply dI);exact rfl;intro μse aq ah;(with_reducible apply bN);(iterate 3 exact rfl);exact EN;exact fun w hw=>jV [.func (.func fi) #[] capi.toArray,.func (.func fq) #[] capq.toArray] [rS,ofT [40]] _ _ _ w _ hw (cR ah rfl (by simp) (by repeat first|exact cH|refine bL rfl ?_)) (cE.cons (Cls.mono f (by(repeat first|assumption|refine MLe.trans ?_ ‹MLe _ _›))) (cE.cons (Cls.mono x (by(repeat assumption))) (cE.nil _))) (by omega);rintro ve μe au ag;obtain⟨fe,cape,rfl⟩:=Cls.form ag)|((with_reducible apply F1 124);exact rfl;exact EN;(exact fun w μc hw a=>by have o:=a.le;exact pI [(.func (.func fe) #[] cape.toArray,2),(.func (.func fr) #[] capr.toArray,1)] [(eiT [rS,ofT [40]],2),(ofT [64],1)] t.kids _ _ _ _ _ w μc hw (KR.mono (by(repeat first|assumption|refine MLe.trans ?_ ‹MLe _ _›)) hk) rfl (by omega) (cR a.hd rfl (by simp) (by repeat first|exact cH|refine bL rfl ?_)) rfl (by decide) (Rws.cons (Cls.mono ag (by(repeat first|assumption|refine MLe.trans ?_ ‹MLe _ _›))) (Rws.cons (Cls.mono r (by(repeat assumption))) (Rws.nil _))) aa))|refine KZ ?_|refine NB fun b=>?_)
  all_goals exact aQ rfl rfl rfl
 rw[if_neg ap];by_cases ao:t.op=61
 ·rw[if_pos ao];try repeat' (first|refine KO ?_|(refine CF 122 ?_;(fail_if_success (have:=e));(with_reducible apply dI);exact rfl;intro μsa l i;(with_reducible apply bN);(iterate 3 exact rfl);exact EN;exact fun w hw=>eG [63] _ _ _ w _ hw (cR i rfl (by simp) (by repeat first|exact cH|refine bL rfl ?_)) (by omega);rintro va μa q e;obtain⟨fa,capa,rfl⟩:=Cls.form e)|(refine CF 120 ?_;(fail_if_success (have:=f));(with_reducible apply dI);exact rfl;intro μsi j g;(with_reducible apply bN);(iterate 3 exact rfl);exact EN;exact fun w hw=>jV [.func (.func 127) #[] #[],.func (.func fa) #[] capa.toArray] [dC,ofT [63]] _ _ _ w _ hw (cR g rfl (by simp) (by repeat first|exact cH|refine bL rfl ?_)) (cE.cons (jQ _) (cE.cons (Cls.mono e (by(repeat assumption))) (cE.nil _))) (by omega);rintro vi μi p f;obtain⟨fi,capi,rfl⟩:=Cls.form f)|(refine CF 122 ?_;(fail_if_success (have:=x));(with_reducible apply dI);exact rfl;intro μsq af z;(with_reducible apply bN);(iterate 3 exact rfl);exact EN;exact fun w hw=>eG [62] _ _ _ w _ hw (cR z rfl (by simp) (by repeat first|exact cH|refine bL rfl ?_)) (by omega);rintro vq μq aj x;obtain⟨fq,capq,rfl⟩:=Cls.form x)|(refine CF 122 ?_;(fail_if_success (have:=r));(with_reducible apply dI);exact rfl;intro μsr ae y;(with_reducible apply bN);(iterate 3 exact rfl);exact EN;exact fun w hw=>eG [64] _ _ _ w _ hw (cR y rfl (by simp) (by repeat first|exact cH|refine bL rfl ?_)) (by omega);rintro vr μr ai r;obtain⟨fr,capr,rfl⟩:=Cls.form r)|((with_reducible apply F1 124);exact rfl;exact EN;(exact fun w μc hw a=>by have o:=a.le;exact pI [(.func (.func fq) #[] capq.toArray,2),(.func (.func fr) #[] capr.toArray,1)] [(ofT [62],2),(ofT [64],1)] t.kids _ _ _ _ _ w μc hw (KR.mono (by(repeat first|assumption|refine MLe.trans ?_ ‹MLe _ _›)) hk) rfl (by omega) (cR a.hd rfl (by simp) (by repeat first|exact cH|refine bL rfl ?_)) rfl (by decide) (Rws.cons (Cls.mono x (by(repeat first|assumption|refine MLe.trans ?_ ‹MLe _ _›))) (Rws.cons (Cls.mono r (by(repeat assumption))) (Rws.nil _))) aa))|refine KZ ?_|refine NB fun b=>?_)
  all_goals exact aQ rfl rfl rfl
 rw[if_neg ao];by_cases an:t.op=62
 ·rw[if_pos an];try repeat' (first|refine KO ?_|(refine CF 122 ?_;(fail_if_success (have:=e));(with_reducible apply dI);exact rfl;intro μsa l i;(with_reducible apply bN);(iterate 3 exact rfl);exact EN;exact fun w hw=>eG [63] _ _ _ w _ hw (cR i rfl (by simp) (by repeat first|exact cH|refine bL rfl ?_)) (by omega);rintro va μa q e;obtain⟨fa,capa,rfl⟩:=Cls.form e)|(refine CF 120 ?_;(fail_if_success (have:=f));(with_reducible apply dI);exact rfl;intro μsi j g;(with_reducible apply bN);(iterate 3 exact rfl);exact EN;exact fun w hw=>jV [.func (.func 127) #[] #[],.func (.func fa) #[] capa.toArray] [dC,ofT [63]] _ _ _ w _ hw (cR g rfl (by simp) (by repeat first|exact cH|refine bL rfl ?_)) (cE.cons (jQ _) (cE.cons (Cls.mono e (by(repeat assumption))) (cE.nil _))) (by omega);rintro vi μi p f;obtain⟨fi,capi,rfl⟩:=Cls.form f)|(refine CF 156 ?_;(fail_if_success (have:=ab));(with_reducible apply bN);(iterate 3 exact rfl);exact EN;exact fun w hw=>zY t _ w _ hw (KR.mono (by(repeat first|assumption|refine MLe.trans ?_ ‹MLe _ _›)) hk);rintro vk μk ar ab;obtain⟨fk,capk,rfl⟩:=Cls.form ab)|((with_reducible apply F1 124);exact rfl;exact EN;(exact fun w μc hw a=>by have o:=a.le;exact gQ [.func (.func fk) #[] capk.toArray,.func (.func fi) #[] capi.toArray] [pO t,rS] t.kids _ _ _ _ _ w μc hw (KR.mono (by(repeat first|assumption|refine MLe.trans ?_ ‹MLe _ _›)) hk) rfl (by omega) (fK (enc:=qO) (xs:=[.func (.func fk) #[] capk.toArray,.func (.func fi) #[] capi.toArray].map fun v=>(v,(0:Int))) a.hd rfl (by simp) rfl) rfl (by decide) (cE.cons (Cls.mono ab (by(repeat assumption))) (cE.cons (Cls.mono f (by(repeat first|assumption|refine MLe.trans ?_ ‹MLe _ _›))) (cE.nil _))) aa))|refine KZ ?_|((with_reducible apply F3 125);exact rfl;exact EN;(exact fun w μc hw a=>by have o:=a.le;exact gR [.func (.func fk) #[] capk.toArray,.func (.func fi) #[] capi.toArray] _ _ _ w μc hw (cR a.hd rfl (by simp) (by repeat first|exact cH|refine bL rfl ?_)) (cE.oV (μ:=μc) (ps:=[pO t,rS]) (cE.cons (Cls.mono ab (by(repeat assumption))) (cE.cons (Cls.mono f (by(repeat first|assumption|refine MLe.trans ?_ ‹MLe _ _›))) (cE.nil _)))) (by omega));intro v9;(with_reducible apply fI 0);exact rfl;rintro A9 c9 rfl ad)|refine NB fun b=>?_)
  all_goals exact aQ rfl rfl rfl
 rw[if_neg an];by_cases al:t.op=63
 ·rw[if_pos al];try repeat' (first|refine KO ?_|(refine CF 122 ?_;(fail_if_success (have:=e));(with_reducible apply dI);exact rfl;intro μsa l i;(with_reducible apply bN);(iterate 3 exact rfl);exact EN;exact fun w hw=>eG [63] _ _ _ w _ hw (cR i rfl (by simp) (by repeat first|exact cH|refine bL rfl ?_)) (by omega);rintro va μa q e;obtain⟨fa,capa,rfl⟩:=Cls.form e)|(refine CF 120 ?_;(fail_if_success (have:=f));(with_reducible apply dI);exact rfl;intro μsi j g;(with_reducible apply bN);(iterate 3 exact rfl);exact EN;exact fun w hw=>jV [.func (.func 127) #[] #[],.func (.func fa) #[] capa.toArray] [dC,ofT [63]] _ _ _ w _ hw (cR g rfl (by simp) (by repeat first|exact cH|refine bL rfl ?_)) (cE.cons (jQ _) (cE.cons (Cls.mono e (by(repeat assumption))) (cE.nil _))) (by omega);rintro vi μi p f;obtain⟨fi,capi,rfl⟩:=Cls.form f)|((with_reducible apply F1 124);exact rfl;exact EN;(exact fun w μc hw a=>by have o:=a.le;exact gQ [.func (.func 127) #[] #[],.func (.func 121) #[] #[]] [dC,bT] t.kids _ _ _ _ _ w μc hw (KR.mono (by(repeat first|assumption|refine MLe.trans ?_ ‹MLe _ _›)) hk) rfl (by omega) (fK (enc:=qO) (xs:=[.func (.func 127) #[] #[],.func (.func 121) #[] #[]].map fun v=>(v,(0:Int))) a.hd rfl (by simp) rfl) rfl (by decide) (cE.cons (jQ _) (cE.cons (cF _) (cE.nil _))) aa))|refine KZ ?_|((with_reducible apply F3 125);exact rfl;exact EN;(exact fun w μc hw a=>by have o:=a.le;exact gR [.func (.func 127) #[] #[],.func (.func 121) #[] #[]] _ _ _ w μc hw (cR a.hd rfl (by simp) (by repeat first|exact cH|refine bL rfl ?_)) (cE.oV (μ:=μc) (ps:=[dC,bT]) (cE.cons (jQ _) (cE.cons (cF _) (cE.nil _)))) (by omega));intro v9;(with_reducible apply fI 0);exact rfl;rintro A9 c9 rfl ad)|refine NB fun b=>?_)
  all_goals exact aQ rfl rfl rfl
 rw[if_neg al];by_cases ak:t.op=64
 ·rw[if_pos ak];try repeat' (first|refine KO ?_|(refine CF 122 ?_;(fail_if_success (have:=e));(with_reducible apply dI);exact rfl;intro μsa l i;(with_reducible apply bN);(iterate 3 exact rfl);exact EN;exact fun w hw=>eG [63] _ _ _ w _ hw (cR i rfl (by simp) (by repeat first|exact cH|refine bL rfl ?_)) (by omega);rintro va μa q e;obtain⟨fa,capa,rfl⟩:=Cls.form e)|(refine CF 120 ?_;(fail_if_success (have:=f));(with_reducible apply dI);exact rfl;intro μsi j g;(with_reducible apply bN);(iterate 3 exact rfl);exact EN;exact fun w hw=>jV [.func (.func 127) #[] #[],.func (.func fa) #[] capa.toArray] [dC,ofT [63]] _ _ _ w _ hw (cR g rfl (by simp) (by repeat first|exact cH|refine bL rfl ?_)) (cE.cons (jQ _) (cE.cons (Cls.mono e (by(repeat assumption))) (cE.nil _))) (by omega);rintro vi μi p f;obtain⟨fi,capi,rfl⟩:=Cls.form f)|((with_reducible apply F1 124);exact rfl;exact EN;(exact fun w μc hw a=>by have o:=a.le;exact gQ [.func (.func 127) #[] #[]] [dC] t.kids _ _ _ _ _ w μc hw (KR.mono (by(repeat first|assumption|refine MLe.trans ?_ ‹MLe _ _›)) hk) rfl (by omega) (fK (enc:=qO) (xs:=[.func (.func 127) #[] #[]].map fun v=>(v,(0:Int))) a.hd rfl (by simp) rfl) rfl (by decide) (cE.cons (jQ _) (cE.nil _)) aa))|refine KZ ?_|((with_reducible apply F3 125);exact rfl;exact EN;(exact fun w μc hw a=>by have o:=a.le;exact gR [.func (.func 127) #[] #[]] _ _ _ w μc hw (cR a.hd rfl (by simp) (by repeat first|exact cH|refine bL rfl ?_)) (cE.oV (μ:=μc) (ps:=[dC]) (cE.cons (jQ _) (cE.nil _))) (by omega));intro v9;(with_reducible apply fI 0);exact rfl;rintro A9 c9 rfl ad)|refine NB fun b=>?_)
  all_goals exact aQ rfl rfl rfl
 rw[if_neg ak];try repeat' (first|refine KO ?_|(refine CF 122 ?_;(fail_if_success (have:=e));(with_reducible apply dI);exact rfl;intro μsa l i;(with_reducible apply bN);(iterate 3 exact rfl);exact EN;exact fun w hw=>eG [63] _ _ _ w _ hw (cR i rfl (by simp) (by repeat first|exact cH|refine bL rfl ?_)) (by omega);rintro va μa q e;obtain⟨fa,capa,rfl⟩:=Cls.form e)|(refine CF 120 ?_;(fail_if_success (have:=f));(with_reducible apply dI);exact rfl;intro μsi j g;(with_reducible apply bN);(iterate 3 exact rfl);exact EN;exact fun w hw=>jV [.func (.func 127) #[] #[],.func (.func fa) #[] capa.toArray] [dC,ofT [63]] _ _ _ w _ hw (cR g rfl (by simp) (by repeat first|exact cH|refine bL rfl ?_)) (cE.cons (jQ _) (cE.cons (Cls.mono e (by(repeat assumption))) (cE.nil _))) (by omega);rintro vi μi p f;obtain⟨fi,capi,rfl⟩:=Cls.form f)|refine KZ ?_|refine NB fun b=>?_)
 all_goals exact aQ rfl rfl rfl
end
section
open Go.RowKit Go.Vcg
noncomputable def rC (t:T):Bool:=
 if t.n=0 then dS (eK [pO t,bT]) t.kids
 else if t.n=1 then dS (eK [pO t,DW]) t.kids
 else if t.n=2 then dS (eK [pO t,zB]) t.kids
 else if t.n=5 then dS (eK [pO t,CS]) t.kids
 else if t.n=3 then dS (eK [oK]) t.kids
 else dS (eK [bT]) t.kids
attribute [local irreducible] dS G GC GQ GA eV Calls IntKind.wrap Int.decLt Int.decLe
theorem aFo(t:T)(u:Value)(w:World)(μ:Mem)(hμ:MOk μ w)(hk:KR μ t.kids u)(hs:t.size≤100000)(h:∀k∈t.kids,T.size k≤100000∧k.s.size≤65536):
 bC 123 #[.agg (cO t u).toArray] w (.bool (rC t)):=by
 have ho:=hk.one;obtain⟨A,c,rfl,j,-⟩:=hk.form;have hlen:=eT t;refine aF Tryz.func123 rfl Tryz.ntmps123 (by simp) hμ ?_;unfold rC;by_cases h0:t.n=0
 ·rw[if_pos h0];try repeat' (first|refine KZ ?_|refine NB fun b=>?_)
  refine aZ 8 _ (by kernel_rfl) rfl (aD aT) ?_;all_goals(refine DD 0 ?_;refine DD 1 ?_;refine DD 2 ?_)
  all_goals(refine D3 3 ?_;refine D5 ?_;(refine CF 156 ?_;(fail_if_success (have:=e));(with_reducible apply bN);(iterate 3 exact rfl);exact EN;exact fun w hw=>zY t _ w _ hw (KR.mono (by(repeat exact MLe.refl _)) hk);rintro vk μk i e;obtain⟨fk,capk,rfl⟩:=Cls.form e);refine D9 ?_)
  all_goals(refine D3 4 ?_;refine D5 ?_;refine NB fun b=>?_;refine D9 ?_)
  all_goals(refine D3 5 ?_;refine D5 ?_;(((with_reducible apply F3 125);exact rfl;exact EN;(exact fun w μc hw a=>by have f:=a.le;exact gR [.func (.func fk) #[] capk.toArray,.func (.func 121) #[] #[]] _ _ _ w μc hw (cR a.hd rfl (by simp) (by repeat first|exact cH|refine bL rfl ?_)) (cE.oV (μ:=μc) (ps:=[pO t,bT]) (cE.cons (Cls.mono e (by(repeat assumption))) (cE.cons (cF _) (cE.nil _)))) (by omega));intro v9;(with_reducible apply fI 0);exact rfl;rintro A9 c9 rfl g));refine D9 ?_)
  all_goals(refine D3 6 ?_;refine D5 ?_;(((with_reducible apply F1 124);exact rfl;exact EN;(exact fun w μc hw a=>by have f:=a.le;exact gQ [.func (.func fk) #[] capk.toArray,.func (.func 121) #[] #[]] [pO t,bT] t.kids _ _ _ _ _ w μc hw (KR.mono (by(repeat first|assumption|refine MLe.trans ?_ ‹MLe _ _›)) hk) rfl (by omega) (fK (enc:=qO) (xs:=[.func (.func fk) #[] capk.toArray,.func (.func 121) #[] #[]].map fun v=>(v,(0:Int))) a.hd rfl (by simp) rfl) rfl (by decide) (cE.cons (Cls.mono e (by(repeat assumption))) (cE.cons (cF _) (cE.nil _))) h)));refine D9 ?_)
  all_goals(refine DD 7 ?_;refine D8 ?_)
  try repeat' (refine KZ ?_)
  all_goals exact aQ rfl rfl rfl
 rw[if_neg h0];by_cases h1:t.n=1
 ·rw[if_pos h1];try repeat' (first|refine KZ ?_|refine NB fun b=>?_)
  refine aZ 8 _ (by kernel_rfl) rfl (aD aT) ?_;all_goals(refine DD 0 ?_;refine DD 1 ?_;refine DD 2 ?_)
  all_goals(refine D3 3 ?_;refine D5 ?_;(refine CF 156 ?_;(fail_if_success (have:=e));(with_reducible apply bN);(iterate 3 exact rfl);exact EN;exact fun w hw=>zY t _ w _ hw (KR.mono (by(repeat exact MLe.refl _)) hk);rintro vk μk i e;obtain⟨fk,capk,rfl⟩:=Cls.form e);refine D9 ?_)
  all_goals(refine D3 4 ?_;refine D5 ?_;refine NB fun b=>?_;refine D9 ?_)
  all_goals(refine D3 5 ?_;refine D5 ?_;(((with_reducible apply F3 125);exact rfl;exact EN;(exact fun w μc hw a=>by have f:=a.le;exact gR [.func (.func fk) #[] capk.toArray,.func (.func 157) #[] #[]] _ _ _ w μc hw (cR a.hd rfl (by simp) (by repeat first|exact cH|refine bL rfl ?_)) (cE.oV (μ:=μc) (ps:=[pO t,DW]) (cE.cons (Cls.mono e (by(repeat assumption))) (cE.cons (OP _) (cE.nil _)))) (by omega));intro v9;(with_reducible apply fI 0);exact rfl;rintro A9 c9 rfl g));refine D9 ?_)
  all_goals(refine D3 6 ?_;refine D5 ?_;(((with_reducible apply F1 124);exact rfl;exact EN;(exact fun w μc hw a=>by have f:=a.le;exact gQ [.func (.func fk) #[] capk.toArray,.func (.func 157) #[] #[]] [pO t,DW] t.kids _ _ _ _ _ w μc hw (KR.mono (by(repeat first|assumption|refine MLe.trans ?_ ‹MLe _ _›)) hk) rfl (by omega) (fK (enc:=qO) (xs:=[.func (.func fk) #[] capk.toArray,.func (.func 157) #[] #[]].map fun v=>(v,(0:Int))) a.hd rfl (by simp) rfl) rfl (by decide) (cE.cons (Cls.mono e (by(repeat assumption))) (cE.cons (OP _) (cE.nil _))) h)));refine D9 ?_)
  all_goals(refine DD 7 ?_;refine D8 ?_)
  try repeat' (refine KZ ?_)
  all_goals exact aQ rfl rfl rfl
 rw[if_neg h1];by_cases h2:t.n=2
 ·rw[if_pos h2];try repeat' (first|refine KZ ?_|refine NB fun b=>?_)
  refine aZ 8 _ (by kernel_rfl) rfl (aD aT) ?_;all_goals(refine DD 0 ?_;refine DD 1 ?_;refine DD 2 ?_)
  all_goals(refine D3 3 ?_;refine D5 ?_;(refine CF 156 ?_;(fail_if_success (have:=e));(with_reducible apply bN);(iterate 3 exact rfl);exact EN;exact fun w hw=>zY t _ w _ hw (KR.mono (by(repeat exact MLe.refl _)) hk);rintro vk μk i e;obtain⟨fk,capk,rfl⟩:=Cls.form e);refine D9 ?_)
  all_goals(refine D3 4 ?_;refine D5 ?_;refine NB fun b=>?_;refine D9 ?_)
  all_goals(refine D3 5 ?_;refine D5 ?_;(((with_reducible apply F3 125);exact rfl;exact EN;(exact fun w μc hw a=>by have f:=a.le;exact gR [.func (.func fk) #[] capk.toArray,.func (.func 158) #[] #[]] _ _ _ w μc hw (cR a.hd rfl (by simp) (by repeat first|exact cH|refine bL rfl ?_)) (cE.oV (μ:=μc) (ps:=[pO t,zB]) (cE.cons (Cls.mono e (by(repeat assumption))) (cE.cons (ON _) (cE.nil _)))) (by omega));intro v9;(with_reducible apply fI 0);exact rfl;rintro A9 c9 rfl g));refine D9 ?_)
  all_goals(refine D3 6 ?_;refine D5 ?_;(((with_reducible apply F1 124);exact rfl;exact EN;(exact fun w μc hw a=>by have f:=a.le;exact gQ [.func (.func fk) #[] capk.toArray,.func (.func 158) #[] #[]] [pO t,zB] t.kids _ _ _ _ _ w μc hw (KR.mono (by(repeat first|assumption|refine MLe.trans ?_ ‹MLe _ _›)) hk) rfl (by omega) (fK (enc:=qO) (xs:=[.func (.func fk) #[] capk.toArray,.func (.func 158) #[] #[]].map fun v=>(v,(0:Int))) a.hd rfl (by simp) rfl) rfl (by decide) (cE.cons (Cls.mono e (by(repeat assumption))) (cE.cons (ON _) (cE.nil _))) h)));refine D9 ?_)
  all_goals(refine DD 7 ?_;refine D8 ?_)
  try repeat' (refine KZ ?_)
  all_goals exact aQ rfl rfl rfl
 rw[if_neg h2];by_cases h5:t.n=5
 ·rw[if_pos h5];try repeat' (first|refine KZ ?_|refine NB fun b=>?_)
  refine aZ 8 _ (by kernel_rfl) rfl (aD aT) ?_;all_goals(refine DD 0 ?_;refine DD 1 ?_;refine DD 2 ?_)
  all_goals(refine D3 3 ?_;refine D5 ?_;(refine CF 156 ?_;(fail_if_success (have:=e));(with_reducible apply bN);(iterate 3 exact rfl);exact EN;exact fun w hw=>zY t _ w _ hw (KR.mono (by(repeat exact MLe.refl _)) hk);rintro vk μk i e;obtain⟨fk,capk,rfl⟩:=Cls.form e);refine D9 ?_)
  all_goals(refine D3 4 ?_;refine D5 ?_;refine NB fun b=>?_;refine D9 ?_)
  all_goals(refine D3 5 ?_;refine D5 ?_;(((with_reducible apply F3 125);exact rfl;exact EN;(exact fun w μc hw a=>by have f:=a.le;exact gR [.func (.func fk) #[] capk.toArray,.func (.func 159) #[] #[]] _ _ _ w μc hw (cR a.hd rfl (by simp) (by repeat first|exact cH|refine bL rfl ?_)) (cE.oV (μ:=μc) (ps:=[pO t,CS]) (cE.cons (Cls.mono e (by(repeat assumption))) (cE.cons (OO _) (cE.nil _)))) (by omega));intro v9;(with_reducible apply fI 0);exact rfl;rintro A9 c9 rfl g));refine D9 ?_)
  all_goals(refine D3 6 ?_;refine D5 ?_;(((with_reducible apply F1 124);exact rfl;exact EN;(exact fun w μc hw a=>by have f:=a.le;exact gQ [.func (.func fk) #[] capk.toArray,.func (.func 159) #[] #[]] [pO t,CS] t.kids _ _ _ _ _ w μc hw (KR.mono (by(repeat first|assumption|refine MLe.trans ?_ ‹MLe _ _›)) hk) rfl (by omega) (fK (enc:=qO) (xs:=[.func (.func fk) #[] capk.toArray,.func (.func 159) #[] #[]].map fun v=>(v,(0:Int))) a.hd rfl (by simp) rfl) rfl (by decide) (cE.cons (Cls.mono e (by(repeat assumption))) (cE.cons (OO _) (cE.nil _))) h)));refine D9 ?_)
  all_goals(refine DD 7 ?_;refine D8 ?_)
  try repeat' (refine KZ ?_)
  all_goals exact aQ rfl rfl rfl
 rw[if_neg h5];by_cases h3:t.n=3
 ·rw[if_pos h3];try repeat' (first|refine KZ ?_|refine NB fun b=>?_)
  refine aZ 6 _ (by kernel_rfl) rfl (aD aT) ?_;all_goals(refine DD 0 ?_;refine DD 1 ?_;refine D3 2 ?_;refine D5 ?_;refine NB fun b=>?_;refine D9 ?_)
  all_goals(refine D3 3 ?_;refine D5 ?_;(((with_reducible apply F3 125);exact rfl;exact EN;(exact fun w μc hw a=>by have f:=a.le;exact gR [.func (.func 160) #[] #[]] _ _ _ w μc hw (cR a.hd rfl (by simp) (by repeat first|exact cH|refine bL rfl ?_)) (cE.oV (μ:=μc) (ps:=[oK]) (cE.cons (SG _) (cE.nil _))) (by omega));intro v9;(with_reducible apply fI 0);exact rfl;rintro A9 c9 rfl g));refine D9 ?_)
  all_goals(refine D3 4 ?_;refine D5 ?_;(((with_reducible apply F1 124);exact rfl;exact EN;(exact fun w μc hw a=>by have f:=a.le;exact gQ [.func (.func 160) #[] #[]] [oK] t.kids _ _ _ _ _ w μc hw (KR.mono (by(repeat assumption)) hk) rfl (by omega) (fK (enc:=qO) (xs:=[.func (.func 160) #[] #[]].map fun v=>(v,(0:Int))) a.hd rfl (by simp) rfl) rfl (by decide) (cE.cons (SG _) (cE.nil _)) h)));refine D9 ?_)
  all_goals(refine DD 5 ?_;refine D8 ?_)
  try repeat' (refine KZ ?_)
  all_goals exact aQ rfl rfl rfl
 rw[if_neg h3];try repeat' (first|refine KZ ?_|refine NB fun b=>?_)
 refine aZ 6 _ (by kernel_rfl) rfl (aD aT) ?_;all_goals(refine DD 0 ?_;refine DD 1 ?_;refine D3 2 ?_;refine D5 ?_;refine NB fun b=>?_;refine D9 ?_)
 all_goals(refine D3 3 ?_;refine D5 ?_;(((with_reducible apply F3 125);exact rfl;exact EN;(exact fun w μc hw a=>by have f:=a.le;exact gR [.func (.func 121) #[] #[]] _ _ _ w μc hw (cR a.hd rfl (by simp) (by repeat first|exact cH|refine bL rfl ?_)) (cE.oV (μ:=μc) (ps:=[bT]) (cE.cons (cF _) (cE.nil _))) (by omega));intro v9;(with_reducible apply fI 0);exact rfl;rintro A9 c9 rfl g));refine D9 ?_)
 all_goals(refine D3 4 ?_;refine D5 ?_;(((with_reducible apply F1 124);exact rfl;exact EN;(exact fun w μc hw a=>by have f:=a.le;exact gQ [.func (.func 121) #[] #[]] [bT] t.kids _ _ _ _ _ w μc hw (KR.mono (by(repeat assumption)) hk) rfl (by omega) (fK (enc:=qO) (xs:=[.func (.func 121) #[] #[]].map fun v=>(v,(0:Int))) a.hd rfl (by simp) rfl) rfl (by decide) (cE.cons (cF _) (cE.nil _)) h)));refine D9 ?_)
 all_goals(refine DD 5 ?_;refine D8 ?_)
 try repeat' (refine KZ ?_)
 all_goals exact aQ rfl rfl rfl
end
end Go.Proofs.YtlllalmkkaolfaaGreatDoor
