/- The law's Few: a tree of at most 1501 nodes. -/
import Derived.Test.YtknieidhopbngaaGreatQac
set_option maxRecDepth 20000
set_option maxHeartbeats 2000000
namespace Go.Proofs.YtknieidhopbngaaGreat
open Go.RowKit Go.Vcg
attribute [local irreducible] G GC GQ GA dV Calls IntKind.wrap Int.decLt Int.decLe
theorem kD(p:T×Value):(bV p).length=6:=rfl
def Kids(μ:Mem)(ps:List (T×Value)):Prop:=∀p∈ps,KR μ p.1.kids p.2
theorem Kids.mono{μ μ' :Mem}{ps:List (T×Value)}(h:Kids μ ps)(hle:MLe μ μ'):Kids μ' ps:=fun p hp=>(h p hp).mono hle
theorem Kids.one{μ:Mem}{ps:List (T×Value)}(h:Kids μ ps):∀u∈ps.flatMap bV,u.oneCell' =true:=by
 intro u hu;obtain⟨p,hp,hu⟩:=List.mem_flatMap.1 hu;simp at hu;rcases hu with rfl|rfl|rfl|rfl|rfl|rfl
 all_goals first|rfl|exact(h p hp).one
theorem KR.bI{μ:Mem}{A:Option Addr}{n c:Nat}{ps:List (T×Value)}(h:Sl bV 6 μ A n ps)(hc:n≤c)(hk:Kids μ ps):KR μ (ps.map (·.1)) (.slice A n c):=by
 have hn:=h.1;subst hn
 have :KR μ (ps.map (·.1)) (.slice A (ps.map (·.1)).length c):=by
  refine .mk _ A c (fun i=>match ps[i]? with|some p=>p.2|none=>undef) (by simpa using hc) (fun i t hi=>?_) (fun i t hi=>?_) (fun i t hi=>?_);all_goals
   rw[eL]at hi;cases hp:ps[i]? with
   |none=>simp[hp]at hi
   | some p=>
     simp[hp]at hi;subst hi;first
      |(obtain⟨a,e,ha⟩:=h.2 (by have:=(List.getElem?_eq_some_iff.1 hp).1;omega);exact⟨a,e,ha i p hp⟩)
      |exact(hk p (aZ hp)).one
      |exact hk p (aZ hp)
 simpa using this
def NQ(x:Int):Prop:= -9223372036854775808≤x∧x≤9223372036854775807
inductive Ri:T→Prop
 |mk {t:T} (h1:NQ t.op) (h3:NQ t.n) (h4:NQ t.m) (hk:∀k∈t.kids,Ri k):Ri t
inductive Sh:T→Prop
 |mk {t:T} (h:t.s.size≤4000) (h1:NQ t.op) (h3:NQ t.n) (h4:NQ t.m) (hk:∀k∈t.kids,Sh k):Sh t
theorem OA{t k:T}(h:k∈t.kids):SizeOf.sizeOf k<SizeOf.sizeOf t:=by
 obtain⟨i,hi⟩:=List.mem_iff_getElem?.1 h;exact T.OB hi
theorem T.ind{p:T→Prop}(h:∀t,(∀k,k∈t.kids→p k)→p t)(t:T):p t:=
 (measure (fun t:T=>SizeOf.sizeOf t)).wf.induction t fun t ih=>h t fun k hk=>ih k (OA hk)
def IN(l:List T):Nat:=(l.map T.size).sum
theorem ED(l:List T):l.length≤IN l:=by
 induction l with
 |nil=>simp
 | cons k l ih=>
   have:=T.size_eq k;simp[IN]at*;omega
theorem KR.take{μ:Mem}{ks:List T}{A:Option Addr}{n c:Nat}(h:KR μ ks (.slice A n c))(k:Nat)(hk:k≤n):KR μ (ks.take k) (.slice A k c):=by
 cases h with
 | mk _ A c vs hcap hcell hone hsub=>
   have e:(ks.take k).length=k:=by simp;omega
   have a:∀(i:Nat) (t:T),(ks.take k)[i]? =some t→ks[i]? =some t:=fun i t hi=>by rw[cT]at hi;split at hi<;>simp_all
   have:=KR.mk (μ:=μ) (ks.take k) A c vs (by omega) (fun i t hi=>hcell i t (a i t hi)) (fun i t hi=>hone i t (a i t hi)) (fun i t hi=>hsub i t (a i t hi));rw[e]at this;exact this
theorem KR.drop{μ:Mem}{ks:List T}{A:Option Addr}{n c:Nat}(h:KR μ ks (.slice A n c))(k m:Nat)(hk:k≤m)(hm:m≤n):KR μ ((ks.drop k).take (m-k)) (.slice (if c=k then A else A.map (·.add (k*6))) (m-k) (c-k)):=by
 refine KR.take (n:=n-k) ?_ (m-k) (by omega);cases h with
 | mk _ A c vs hcap hcell hone hsub=>
   have e:(ks.drop k).length=ks.length-k:=by simp
   have b:∀(i:Nat) (t:T),(ks.drop k)[i]? =some t→ks[k+i]? =some t:=fun i t hi=>by simpa using hi
   have:=KR.mk (μ:=μ) (ks.drop k) (if c=k then A else A.map (·.add (k*6))) (c-k) (fun i=>vs (k+i)) (by omega) (fun i t hi=>?_) (fun i t hi=>hone _ t (b i t hi)) (fun i t hi=>hsub _ t (b i t hi))
   ·rw[e]at this;exact this
   ·obtain⟨a,e,hc⟩:=hcell _ t (b i t hi);have:k+i<ks.length:=(List.getElem?_eq_some_iff.1 (b i t hi)).1;rw[if_neg (by omega),e];refine⟨_,rfl,?_⟩;rw[rN,←dK];exact hc
def eW(t:T):Bool:=decide (t.op=34)||((decide (t.op=51)||decide (t.op=52))&&decide (t.n=0))
def gJ(t:T):Bool:=eW t||decide (t.op=60)||decide (t.op=61)
theorem jM(w:World)(μ:Mem)(hμ:MOk μ w)(t:T)(kv:Value):
 aO 62 #[.agg (dG t kv).toArray] w (.bool (eW t)):=by
 refine aQ Tryz.func62 rfl Tryz.ntmps62 (by simp) hμ ?_;try repeat' (first|refine KZ ?_|refine NB fun b=>?_|(refine KB ?_ ?_<;>intro hp))
 all_goals refine bL rfl rfl ?_
 all_goals unfold eW
 all_goals simp_all
theorem tS(w:World)(μ:Mem)(hμ:MOk μ w)(t:T)(kv:Value):
 aO 130 #[.agg (dG t kv).toArray] w (.bool (gJ t)):=by
 refine aQ Tryz.func130 rfl Tryz.ntmps130 (by simp) hμ ?_;try repeat' (first|refine KZ ?_|((with_reducible apply C1);exact rfl;exact EN;exact fun w μc hk a=>jM w μc hk t kv)|refine NB fun b=>?_|(refine KB ?_ ?_<;>intro hp))
 all_goals refine bL rfl rfl ?_
 all_goals unfold gJ
 all_goals simp_all
theorem QK(w:World)(μ:Mem)(hμ:MOk μ w)(A:Option Addr)(n c:Nat)(ps:List (T×Value))(d:Sl bV 6 μ A n ps)(hk:Kids μ ps)(hn:n≤1000000):
 Calls Tryz.prog 148 #[.slice A n c] w (CT w 25 6 n (ps.flatMap bV)):=by
 refine aQ Tryz.func148 rfl Tryz.ntmps148 (by simp) hμ ?_;have h1:=hk.one;have h2:=fP kD ps;rw[d.1]at h2;cases A with
 | none=>
   have g:n=0:=by
    rcases gK n with h|h
    ·exact h
    ·obtain⟨a,e,_⟩:=d.2 h;cases e
   subst g;have:ps=[]:=dC d.1;subst this;try repeat' (first|refine KO ?_|(refine KV (b:=by((with_reducible apply RH);exact rfl;exact rfl)) (c:=?_)))
   exact VM 25 6 (RX 0 rfl rfl rfl)
 | some ad=>
   try repeat' (first|(with_reducible apply aFj 6)|refine KO ?_|(((with_reducible apply pJ);(iterate 3 exact rfl);(repeat with_reducible exact eO);(iterate 6 exact rfl);(((with_reducible apply tM);exact rfl;exact d;simp));omega;(assumption);omega;omega;intro v))|(refine KV (b:=by((with_reducible apply RH);exact rfl;exact rfl)) (c:=?_))|refine KZ ?_|refine NB fun b=>?_)
   simp only[dT,jK];exact RX 0 rfl rfl rfl
theorem XB{α:Type}{l:List α}{i:Nat}{x:α}(h:l[i]? =some x):l.set i x=l:=by
 apply lB;intro j;rw[List.getElem?_set];split
 ·subst_vars
  rw[h];have:=(List.getElem?_eq_some_iff.1 h).1;simp[this]
 ·rfl
theorem iW{t:T}{u:Value}(h:u.oneCell' =true):(dG t u).all (·.oneCell')=true:=by
 simp only[kQ,List.all_nil,eX,aM];exact⟨rfl,rfl,rfl,rfl,rfl,h⟩
def QY(t:T):Prop:=∀(w:World) (μ:Mem) (kv:Value),MOk μ w→KR μ t.kids kv→t.size≤1000000→
 Calls Tryz.prog 131 #[.agg (dG t kv).toArray] w fun e w' =>∃v μ',e=.returned v∧oH w w' μ μ' ∧TV μ' t v
theorem NI(t:T)(ih:∀k,k∈t.kids→QY k):QY t:=by
 intro w μ kv hμ hk ai;refine aQ Tryz.func131 rfl Tryz.ntmps131 (by simp) hμ ?_;obtain⟨A,c,ps,rfl,hcap,o,hS,h⟩:=hk.sl;have al:=ED t.kids;have ak:t.size=1+IN t.kids:=T.size_eq t;have hlen:ps.length=t.kids.length:=by rw[←o];simp
 try repeat' (first|refine KZ ?_|((with_reducible apply C3);exact rfl;exact EN;exact fun w μc hk r=>QK w μc hk _ _ _ ps (hS.mono r.le) (Kids.mono h r.le) (by omega);intro v;(with_reducible apply bB 0);exact rfl;rintro A1 c1 rfl y)|refine NB fun b=>?_)
 rename_i b1;refine dH (ι:=Nat×List (T×Value)×Mem) (fun i=>i.1≤t.kids.length∧MLe μ i.2.2∧Kids i.2.2 i.2.1∧i.2.1.map (·.1)=t.kids) (fun i=>t.kids.length-i.1) (fun i=>i.2.2) (fun i=>[(11,.int .i64 i.1),(10,.int .i64 t.kids.length),(2,.pointer (some ⟨b,0,none⟩)),(1,.pointer (some ⟨b1,0,none⟩))]) (fun i=>[.inr ⟨.slice A1 t.kids.length c1,25,6,t.kids.length,i.2.1.flatMap bV⟩,.inl ⟨b,25,6,_⟩,.inl ⟨b1,25,6,_⟩]) (0,ps,μ) ⟨by simp,MLe.refl _,h,o⟩ (fun a w hs=>J6 hs) ?_;rintro⟨i,qs,μ1⟩ ⟨hi,hle,hq,d⟩;dsimp only at hi hle hq d⊢;have x:qs.length=t.kids.length:=by rw[←d];simp
 by_cases aj:i<t.kids.length
 ·rcases y.form with⟨_,h0,_⟩|⟨g,rfl⟩
  ·omega
  have j:qs[i]? =some qs[i]:=aI (by omega);generalize qs[i]=p at j;obtain⟨k,u⟩:=p;have q:t.kids[i]? =some k:=by rw[←d,eL,j];rfl
  have af:=aZ q;have aa:k.size≤1000000:=by have:=T.dX q;omega
  have ae:KR μ1 k.kids u:=hq _ (aZ j);have hcell:=ZU kD j;have ag:=fP kD qs;rw[x]at ag;try repeat' (refine KZ ?_)
  refine aW 11 _ (by kernel_rfl) rfl (aG (aG (aK aU))) ?_;all_goals(refine D1 0 ?_;refine DD 1 ?_;refine D1 2 ?_;refine D1 3 ?_;refine DD 4 ?_;refine D1 5 ?_;refine D2 6 rfl (by exact U1 i) ?_)
  all_goals refine D3 7 (DW (b:=by((with_reducible apply KI 0 (vs:=dG k u));(iterate 5 exact rfl);exact hcell)) (c:=?_))
  all_goals(refine D3 8 ?_;refine D5 ?_;(with_reducible apply C2);exact rfl;exact EN;exact fun w hw=>ih k af w μ1 u hw ae aa;rintro v2 μ2 l ⟨u2,rfl,ab⟩;refine D9 ?_)
  all_goals refine D2 9 rfl (by exact U1 i) ?_
  all_goals(refine D3 10 ?_;refine D5 ?_;(((with_reducible apply pI 0);(iterate 6 exact rfl);exact iW ab.one;omega));refine D9 ?_)
  all_goals refine D8 ?_
  try repeat' (refine KZ ?_)
  refine gG (i+1,qs.set i (k,u2),μ2) ⟨by dsimp only;omega,hle.trans l,?_,?_⟩ (by dsimp only;omega) rfl PU ?_
  ·intro p hp;rcases List.mem_or_eq_of_mem_set hp with hp|rfl
   ·exact(hq p hp).mono l
   ·exact ab
  ·show(qs.set i (k,u2)).map (·.1)=t.kids
   rw[List.map_set,d];exact XB q
  ·dsimp only[nQ];have:=ZT kD qs i (k,u2) (by omega);rw[←this];exact(by repeat exact aH _)
 ·try repeat' (refine KZ ?_)
  refine OP rfl (RG 1 rfl rfl rfl rfl rfl) (fun μ' z hL=>⟨.slice A1 t.kids.length c1,rfl,?_⟩);have ad:=hL _ (dN _);have ah:=bD (enc:=bV) (xs:=qs) ad x (by simp) rfl;have:=KR.bI ah y.cap (hq.mono z);rwa[d]at this
theorem jB(t:T):QY t:=T.ind NI t
abbrev TE:=T×Int
def kN(e:Int):TE:=(T.zero,e)
def empty:ByteArray:=⟨#[]⟩
def TEV(μ:Mem)(r:TE)(v:Value):Prop:=∃u,v=.tuple #[.agg (dG r.1 u).toArray,.int .i64 r.2]∧KR μ r.1.kids u
theorem TEV.zero(μ:Mem)(e:Int):TEV μ (kN e) (.tuple #[.agg #[.int .i64 0,.int .i64 0,.int .i64 0,.int .i64 0,.string ⟨#[]⟩,.slice none 0 0],.int .i64 e]):=⟨_,rfl,KR.nil _ _ _⟩
theorem KR.lit{μ:Mem}{x:Blk}{n:Nat}(ps:List (T×Value))(h:Bk.sh (.inl x) μ)(hn:ps.length=n)(hc:LC x.cs 0 (n*6) (ps.flatMap bV))(hk:Kids μ ps):KR μ (ps.map (·.1)) (.slice (some ⟨x.b,0,none⟩) n n):=
 KR.bI (IM h hn (by simp) hc) (aP _) hk
theorem Kids.two{μ:Mem}{x y:T}{u v:Value}(h:KR μ x.kids u)(a:KR μ y.kids v):Kids μ [(x,u),(y,v)]:=by
 intro p hp;simp at hp;rcases hp with rfl|rfl
 ·exact h
 ·exact a
theorem Kids.single{μ:Mem}{x:T}{u:Value}(h:KR μ x.kids u):Kids μ [(x,u)]:=by
 intro p hp;simp at hp;subst hp;exact h
def nI(t:T)(deep:Int):TE:=
 if deep+1>200 then kN 10 else
 match t.kids with
 |[a,b]=>if gJ a then(T.mk 63 t.at' 0 0 empty [a,b],0)else kN 24
 |_=>kN 24
theorem FK(w:World)(μ:Mem)(hμ:MOk μ w)(t:T)(kv:Value)(hk:KR μ t.kids kv)(ab:t.size≤1000000)(h2:t.kids.length=2)(deep:Int)(hd: -1000000≤deep∧deep≤1000000):
 Calls Tryz.prog 132 #[.agg (dG t kv).toArray,.int .i64 deep] w fun e w' =>∃v μ',e=.returned v∧oH w w' μ μ' ∧TEV μ' (nI t deep) v:=by
 refine aQ Tryz.func132 rfl Tryz.ntmps132 (by simp) hμ ?_;obtain⟨A,c,rfl,hcap,d⟩:=hk.form;obtain⟨x,y,h⟩:∃x y,t.kids=[x,y]:=by
  match t.kids,h2 with
  |[x,y],_=>exact⟨x,y,rfl⟩
 have hx:t.kids[0]? =some x:=by rw[h];rfl
 have hy:t.kids[1]? =some y:=by rw[h];rfl
 obtain⟨ad,u0,rfl,i,af,aa⟩:=d 0 x hx;obtain⟨_,u1,e1,q,ae,z⟩:=d 1 y hy;cases e1;have p:x.size≤1000000:=by have:=T.dX hx;omega
 have o:y.size≤1000000:=by have:=T.dX hy;omega
 have hF:nI t deep=if deep+1>200 then kN 10 else if gJ x then(T.mk 63 t.at' 0 0 empty [x,y],0)else kN 24:=by unfold nI;rw[h]
 rw[hF];clear hF;by_cases g:deep+1>200
 ·rw[if_pos g];try repeat' (first|refine KZ ?_|refine NB fun b=>?_)
  exact fE rfl (RG 0 rfl rfl rfl rfl rfl) (aN rfl) (fun μ' _ _=>TEV.zero μ' 10)
 ·rw[if_neg g];cases hp:gJ x
  ·rw[if_neg (by simp)];try repeat' (first|refine KO ?_|((with_reducible apply C1);exact rfl;exact EN;exact fun w μc hk l=>by have:=tS w μc hk x u0;rw[hp]at this;exact this)|(refine KV (b:=by first|exact U1 0|exact U4 i) (c:=?_))|refine KZ ?_|refine NB fun b=>?_)
   exact fE rfl (RG 0 rfl rfl rfl rfl rfl) (aN rfl) (fun μ' _ _=>TEV.zero μ' 24)
  ·rw[if_pos rfl];try repeat' (first|refine KO ?_|((with_reducible apply C1);exact rfl;exact EN;exact fun w μc hk l=>by have:=tS w μc hk x u0;rw[hp]at this;exact this)|(refine KV (b:=by first|exact U1 0|exact U4 i) (c:=?_))|refine KZ ?_|refine NB fun b=>?_)
   refine aW 16 _ (by kernel_rfl) rfl (aG (aK aU)) ?_;all_goals(refine D1 0 ?_;refine DD 1 ?_;refine D1 2 ?_;refine DD 3 ?_;refine D2 4 rfl (by exact U1 0) ?_;refine D2 5 rfl (by exact U4 i) ?_;refine D1 7 ?_;refine DD 8 ?_;refine D2 9 rfl (by exact U1 1) ?_;refine D2 10 rfl (by exact U4 q) ?_)
   all_goals(refine D3 6 ?_;refine D5 ?_;(((with_reducible apply C2);exact rfl;exact EN;exact fun w hw=>jB x w μ u0 hw aa p;rintro v2 μ2 k ⟨u2,rfl,u⟩));refine D9 ?_)
   all_goals(refine D3 11 ?_;refine D5 ?_;(((with_reducible apply C2);exact rfl;exact EN;exact fun w hw=>jB y w μ2 u1 hw (z.mono k) o;rintro v3 μ3 j ⟨u3,rfl,r⟩));refine D9 ?_)
   all_goals(refine D3 12 ?_;refine D5 ?_;refine NB fun b=>?_;refine D9 ?_;refine D1 13 ?_;refine D3 14 ?_;refine D5 ?_;refine Y0 ?_;refine D9 ?_;refine D1 15 ?_;refine D8 ?_)
   try repeat' (refine KZ ?_)
   refine fE rfl (RG 1 rfl rfl rfl rfl rfl) (aN rfl) (fun μ' a hL=>⟨_,rfl,?_⟩);exact KR.lit [(x,u2),(y,u3)] (hL _ (dN _)) rfl (by repeat first|exact bH|refine bA rfl ?_) (Kids.two (u.mono (j.trans a)) (r.mono a))
def nF(t:T)(deep:Int):TE:=
 match t.kids with
 |[k]=>if k.op≠31 then kN 24 else if deep+1>200 then kN 10 else(T.mk 62 t.at' 0 t.m empty [k,T.mk 34 k.at' 0 0 k.s []],0)
 |[k,d]=>if k.op≠31 then kN 24 else if deep+2>200 then kN 10 else(T.mk 62 t.at' 0 t.m empty [k,T.mk 63 k.at' 0 0 empty [T.mk 34 k.at' 0 0 k.s [],d]],0)
 |_=>kN 24
theorem aDn{α:Type}{l:List α}{x y:α}(h:l.length=2)(d:l[0]? =some x)(c:l[1]? =some y):l=[x,y]:=by
 match l,h with
 |[a,b],_=>simp at d c;rw[d,c]
theorem aDo{α:Type}{l:List α}{x:α}(h:l.length=1)(b:l[0]? =some x):l=[x]:=by
 match l,h with
 |[a],_=>simp at b;rw[b]
theorem OG(w:World)(μ:Mem)(hμ:MOk μ w)(t:T)(kv:Value)(hk:KR μ t.kids kv)(af:t.size≤1000000)(deep:Int)(hd: -1000000≤deep∧deep≤1000000):
 Calls Tryz.prog 152 #[.agg (dG t kv).toArray,.int .i64 deep] w fun e w' =>∃v μ',e=.returned v∧oH w w' μ μ' ∧TEV μ' (nF t deep) v:=by
 refine aQ Tryz.func152 rfl Tryz.ntmps152 (by simp) hμ ?_;obtain⟨A,c,rfl,hcap,l⟩:=hk.form;by_cases hlen:t.kids.length<1∨t.kids.length>2
 ·have j:nF t deep=kN 24:=by unfold nF;split<;>simp_all
  rw[j];try repeat' (first|refine KZ ?_|refine NB fun b=>?_|(refine KB ?_ ?_<;>intro hp))
  all_goals exact fE rfl (RG 1 rfl rfl rfl rfl rfl) (aN rfl) (fun μ' _ _=>TEV.zero μ' 24)
 ·have q:t.kids[0]? =some t.kids[0]:=aI (by omega);generalize t.kids[0]=x at q;obtain⟨ad,u0,rfl,i,ah,p⟩:=l 0 x q;have o:x.size≤1000000:=by have:=T.dX q;omega
  by_cases u:x.op=31
  ·by_cases h2:t.kids.length=2
   ·have hy:t.kids[1]? =some t.kids[1]:=aI (by omega);generalize t.kids[1]=y at hy;obtain⟨_,u1,e1,ae,ag,ab⟩:=l 1 y hy;cases e1;have r:y.size≤1000000:=by have:=T.dX hy;omega
    have j:nF t deep=if deep+2>200 then kN 10 else(T.mk 62 t.at' 0 t.m empty [x,T.mk 63 x.at' 0 0 empty [T.mk 34 x.at' 0 0 x.s [],y]],0):=by unfold nF;rw[aDn h2 q hy];exact if_neg (by simpa using u)
    rw[j];clear j;try repeat' (first|refine KO ?_|((with_reducible apply C2);exact rfl;exact EN;(exact fun w hw=>jB x w μ u0 hw p o);rintro v2 μ2 a ⟨u2,rfl,g⟩)|((with_reducible apply eD);(iterate 5 exact rfl);exact iW g.one;exact rfl;(repeat first|with_reducible exact fL|with_reducible apply dY))|(refine KV (b:=by first|exact U1 0|exact U4 i) (c:=?_))|refine KZ ?_|refine NB fun b=>?_)
    have z:=ae.mono a;refine aW 11 _ (by kernel_rfl) rfl (aG (aK (aG (aG (aK aU))))) ?_;all_goals(refine D1 0 ?_;refine DD 1 ?_;refine D1 3 ?_;refine DD 4 ?_;refine D2 5 rfl (by exact U1 1) ?_;refine D2 6 rfl (by exact U4 z) ?_)
    refine dS 2 7 (by kernel_rfl) ?dr1_2 ?dr1_7
    case' dr1_2=>
     (((with_reducible apply bS);(iterate 4 exact rfl);(((with_reducible apply gT);exact rfl;(repeat with_reducible exact bT);exact rfl))))
     all_goals(refine D3 7 ?_;refine D5 ?_;(with_reducible apply C2);exact rfl;exact EN;exact fun w hw=>jB y w μ2 u1 hw (ab.mono a) r;rintro v3 μ3 k ⟨u3,rfl,aa⟩;refine D9 ?_)
     all_goals(refine D3 8 ?_;refine D5 ?_;refine NB fun b=>?_;refine D9 ?_;refine D1 9 ?_;refine D3 10 ?_;refine D5 ?_;refine Y0 ?_;refine D9 ?_;refine D8 ?_)
    case' dr1_7=>
     (refine D5 ?_;(with_reducible apply C2);exact rfl;exact EN;exact fun w hw=>jB y w μ2 u1 hw (ab.mono a) r;rintro v3 μ3 k ⟨u3,rfl,aa⟩;refine D9 ?_)
     all_goals(refine D3 2 ?_;(with_reducible apply bS);(iterate 4 exact rfl);(((with_reducible apply gT);exact rfl;(repeat with_reducible exact bT);exact rfl)))
     all_goals(refine D3 8 ?_;refine D5 ?_;refine NB fun b=>?_;refine D9 ?_;refine D1 9 ?_;refine D3 10 ?_;refine D5 ?_;refine Y0 ?_;refine D9 ?_;refine D8 ?_)
    all_goals by_cases d:deep+2>200
    all_goals first|rw[if_pos d]|rw[if_neg d]
    all_goals try repeat' (first|refine KZ ?_|refine NB fun b=>?_)
    all_goals first
     |exact fE rfl (RG 4 rfl rfl rfl rfl rfl) (aN rfl) (fun μ' _ _=>TEV.zero μ' 10)
     |exact fE rfl (RG 5 rfl rfl rfl rfl rfl) (aN rfl) (fun μ' h hL=>⟨_,rfl,KR.lit [(x,u2),(T.mk 63 x.at' 0 0 empty [T.mk 34 x.at' 0 0 x.s [],y],_)] (hL _ (dN _)) rfl (by repeat first|exact bH|refine bA rfl ?_) (Kids.two (g.mono (k.trans h)) (KR.lit [(T.mk 34 x.at' 0 0 x.s [],.slice none 0 0),(y,u3)] (hL _ (List.Mem.tail _ (dN _))) rfl (by repeat first|exact bH|refine bA rfl ?_) (Kids.two (KR.nil _ _ _) (aa.mono h))))⟩)
   ·have j:nF t deep=if deep+1>200 then kN 10 else(T.mk 62 t.at' 0 t.m empty [x,T.mk 34 x.at' 0 0 x.s []],0):=by unfold nF;rw[aDo (by omega) q];exact if_neg (by simpa using u)
    rw[j];clear j;by_cases d:deep+1>200
    ·rw[if_pos d];try repeat' (first|refine KO ?_|((with_reducible apply C2);exact rfl;exact EN;(exact fun w hw=>jB x w μ u0 hw p o);rintro v2 μ2 a ⟨u2,rfl,g⟩)|((with_reducible apply eD);(iterate 5 exact rfl);exact iW g.one;exact rfl;(repeat first|with_reducible exact fL|with_reducible apply dY))|(refine KV (b:=by first|exact U1 0|exact U4 i) (c:=?_))|refine KZ ?_|refine NB fun b=>?_)
     exact fE rfl (RG 3 rfl rfl rfl rfl rfl) (aN rfl) (fun μ' _ _=>TEV.zero μ' 10)
    ·rw[if_neg d];try repeat' (first|refine KO ?_|((with_reducible apply C2);exact rfl;exact EN;(exact fun w hw=>jB x w μ u0 hw p o);rintro v2 μ2 a ⟨u2,rfl,g⟩)|((with_reducible apply eD);(iterate 5 exact rfl);exact iW g.one;exact rfl;(repeat first|with_reducible exact fL|with_reducible apply dY))|(refine KV (b:=by first|exact U1 0|exact U4 i) (c:=?_))|refine KZ ?_|refine NB fun b=>?_)
     refine fE rfl (RG 4 rfl rfl rfl rfl rfl) (aN rfl) (fun μ' h hL=>⟨_,rfl,?_⟩);exact KR.lit [(x,u2),(T.mk 34 x.at' 0 0 x.s [],.slice none 0 0)] (hL _ (dN _)) rfl (by repeat first|exact bH|refine bA rfl ?_) (Kids.two (g.mono h) (KR.nil _ _ _))
  ·have j:nF t deep=kN 24:=by unfold nF;split<;>simp_all
   rw[j];try repeat' (first|refine KO ?_|(refine KV (b:=by first|exact U1 0|exact U4 i) (c:=?_))|refine KZ ?_|refine NB fun b=>?_)
   exact fE rfl (RG 1 rfl rfl rfl rfl rfl) (aN rfl) (fun μ' _ _=>TEV.zero μ' 24)
def oJ(ks:List T)(i:Nat)(deep:Int)(kid:T→TE):TE:=
 if deep>200 then kN 10 else
 match ks[i]? with
 |none=>kN 24
 | some t=>if i+1≠ks.length then kN 24 else
   match t.kids with
   |[k]=>if(kid k).2≠0 then kN (kid k).2 else(T.mk 64 t.at' 0 0 empty [(kid k).1],0)
   |_=>kN 24
def aF3(f:FuncId)(cap:List Value)(μ:Mem)(kid:T→TE)(k:T):Prop:=
 ∀(w:World) (μ1:Mem) (u:Value),MOk μ1 w→MLe μ μ1→KR μ1 k.kids u→Calls Tryz.prog f ([Value.agg (dG k u).toArray]++cap).toArray w fun e w' =>∃v μ',e=.returned v∧oH w w' μ1 μ' ∧TEV μ' (kid k) v
theorem HT(w:World)(μ:Mem)(hμ:MOk μ w)(ks:List T)(kv:Value)(hk:KR μ ks kv)(i:Nat)(t:T)(hi:ks[i]? =some t)(hn:ks.length≤1000000)(deep:Int)(f:FuncId)(cap:List Value)(hf:hG Tryz.prog f=true)(kid:T→TE)
 (aa:∀k,t.kids=[k]→aF3 f cap μ kid k):
 Calls Tryz.prog 149 #[kv,.int .i64 i,.int .i64 deep,.func (.func f) #[] cap.toArray] w fun e w' =>∃v μ',e=.returned v∧oH w w' μ μ' ∧TEV μ' (oJ ks i deep kid) v:=by
 refine aQ Tryz.func149 rfl Tryz.ntmps149 (by simp) hμ ?_;obtain⟨A,c,rfl,hcap,p⟩:=hk.form;have ae:i<ks.length:=(List.getElem?_eq_some_iff.1 hi).1;obtain⟨ad,u,rfl,hm,ho,y⟩:=p i t hi;obtain⟨A1,c1,rfl,ab,g⟩:=y.form;by_cases a:deep>200
 ·have d:oJ ks i deep kid=kN 10:=by unfold oJ;rw[if_pos a]
  rw[d];try repeat' (first|refine KZ ?_|refine NB fun b=>?_)
  exact fE rfl (RG 0 rfl rfl rfl rfl rfl) (aN rfl) (fun μ' _ _=>TEV.zero μ' 10)
 ·by_cases hl:i+1≠ks.length
  ·have d:oJ ks i deep kid=kN 24:=by unfold oJ;rw[if_neg a,hi];exact if_pos hl
   rw[d];try repeat' (first|refine KZ ?_|refine NB fun b=>?_)
   exact fE rfl (RG 0 rfl rfl rfl rfl rfl) (aN rfl) (fun μ' _ _=>TEV.zero μ' 24)
  ·by_cases h1:t.kids.length=1
   ·have q:t.kids[0]? =some t.kids[0]:=aI (by omega);generalize t.kids[0]=k at q;have l:=aDo h1 q;obtain⟨ad1,u1,rfl,r,af,z⟩:=g 0 k q;have d:oJ ks i deep kid=if(kid k).2≠0 then kN (kid k).2 else(T.mk 64 t.at' 0 0 empty [(kid k).1],0):=by unfold oJ;rw[if_neg a,hi];simp only[if_neg hl,l]
    rw[d];clear d;try repeat' (first|refine KO ?_|((with_reducible apply C2);exact rfl;exact EN;(exact fun w hw=>aa k l w μ u1 hw (MLe.refl _) z);rintro v2 μ2 h ⟨u2,rfl,o⟩)|((with_reducible apply eD);(iterate 5 exact rfl);exact iW o.one;exact rfl;(repeat first|with_reducible exact fL|with_reducible apply dY))|(refine KV (b:=by first|exact U1 i|exact U1 0|exact U4 hm|exact U4 r) (c:=?_))|refine KZ ?_|refine NB fun b=>?_|(refine KB ?_ ?_<;>intro hp))
    ·rw[if_pos hp];exact fE rfl (RG 1 rfl rfl rfl rfl rfl) (aN rfl) (fun μ' _ _=>TEV.zero μ' _)
    ·rw[if_neg hp];have x:=hm.mono h;refine aW 10 _ (by kernel_rfl) rfl (aK aU) ?_;all_goals(refine D1 0 ?_;refine D1 1 ?_;refine D2 2 rfl (by exact U1 i) ?_;refine DD 3 ?_;refine D2 4 rfl (by exact U4 x) ?_;refine DD 5 ?_;refine D3 6 ?_;refine D5 ?_;refine NB fun b=>?_;refine D9 ?_;refine D1 7 ?_;refine D3 8 ?_;refine D5 ?_;refine Y0 ?_;refine D9 ?_;refine D1 9 ?_;refine D8 ?_)
     try repeat' (refine KZ ?_)
     refine fE rfl (RG 2 rfl rfl rfl rfl rfl) (aN rfl) (fun μ' j hL=>⟨_,rfl,?_⟩);exact KR.lit [((kid k).1,u2)] (hL _ (dN _)) rfl (by repeat first|exact bH|refine bA rfl ?_) (Kids.single (o.mono j))
   ·have d:oJ ks i deep kid=kN 24:=by unfold oJ;rw[if_neg a,hi];simp only[if_neg hl];split<;>simp_all
    rw[d];try repeat' (first|refine KO ?_|(refine KV (b:=by first|exact U1 i|exact U4 hm) (c:=?_))|refine KZ ?_|refine NB fun b=>?_)
    exact fE rfl (RG 0 rfl rfl rfl rfl rfl) (aN rfl) (fun μ' _ _=>TEV.zero μ' 24)
def BG(g:Nat→TE)(n:Nat):Option Nat:=(List.range n).find? fun i=>decide ((g i).2≠0)
def sY(el:T→Int→Bool→TE)(ks:List T)(i:Nat)(deep:Int):TE:=
 match ks[i]? with
 |none=>kN 24
 |some t=>if t.op=41 then oJ ks i deep (fun k=>el k (deep+1) false)else if t.op=40 then(t,0)else el t deep true
def GZ(deep:Int)(k:T):TE:=if deep+1>200 then kN 10 else if eW k then(k,0)else kN 24
def mY(el:T→Int→Bool→TE)(ks:List T)(i:Nat)(deep:Int):TE:=
 match ks[i]? with
 |none=>kN 24
 | some t=>
   if t.op=39∧t.n=4 then oJ ks i deep (GZ deep)else if deep>200 then kN 10 else if t.op=39∧t.n=3 then nF t deep
   else if t.op≠39∨t.n≠0 then kN 24 else
   match t.kids with
   |[a,b]=>if(el b (deep+1) true).2≠0 then kN (el b (deep+1) true).2 else(T.mk 62 t.at' 0 t.m empty [a,(el b (deep+1) true).1],0)
   |_=>kN 24
def elF:Nat→T→Int→Bool→TE
 |0,_,_,_=>kN 0
 | N+1,t,deep,may=>
   if deep>200 then kN 10 else if gJ t then(t,0)else if t.op=46∧may=true∧t.s=⟨#[61]⟩∧t.kids.length=2 then nI t deep else
   if t.op=37∨t.op=38 then
    let g:=fun i=>if t.op=37 then sY (elF N) t.kids i (deep+1)else mY (elF N) t.kids i (deep+1)
    match BG g t.kids.length with
    |some i=>kN (g i).2
    |none=>(T.mk (if t.op=37 then 60 else 61) t.at' 0 0 empty ((List.range t.kids.length).map fun i=>(g i).1),0)
   else kN 24
def QW(el:T→Int→Bool→TE)(t:T):Prop:=∀(w:World) (μ:Mem) (kv:Value) (deep:Int) (may:Bool),MOk μ w→KR μ t.kids kv→t.size≤1000000→0≤deep∧deep≤1000→
 Calls Tryz.prog 116 #[.agg (dG t kv).toArray,.int .i64 deep,.bool may] w fun e w' =>∃v μ',e=.returned v∧oH w w' μ μ' ∧TEV μ' (el t deep may) v
theorem oM.YG{μ:Mem}{x:Blk}{v:Value}(h:Bk.sh (.inl x) μ)(hv:lk x.cs 0=some v):oM μ ⟨x.b,0,none⟩ v:=by
 obtain⟨arr,h1,_,h3⟩:=h;exact⟨arr,x.t,(0,0),h1,rfl,h3 0 v hv⟩
theorem YY(el:T→Int→Bool→TE)(k:T)(h:QW el k)(g:k.size≤1000000)(b:Nat)(deep:Int)(hd:0≤deep∧deep≤900)(μ:Mem)(hb:oM μ ⟨b,0,none⟩ (.int .i64 deep)):
 aF3 150 [.pointer (some ⟨b,0,none⟩)] μ (fun k=>el k (deep+1) false) k:=by
 intro w μ1 u hμ hle hk;refine aQ Tryz.func150 rfl Tryz.ntmps150 (by simp) hμ ?_;have i:=hb.mono hle;try repeat' (first|refine KO ?_|((with_reducible apply C2);exact rfl;exact EN;exact fun w hw=>h w μ1 u (deep+1) false hw hk g (by omega);rintro v2 μ2 j ⟨u2,rfl,d⟩)|((with_reducible apply eD);(iterate 5 exact rfl);exact iW d.one;exact rfl;(repeat first|with_reducible exact fL|with_reducible apply dY))|(refine KV (b:=by((with_reducible apply qJ);exact rfl;exact rfl;exact i)) (c:=?_))|refine KZ ?_|refine NB fun b=>?_)
 exact fE rfl (RG 0 rfl rfl rfl rfl rfl) (aN rfl) (fun μ' a hL=>⟨_,rfl,d.mono a⟩)
theorem YC(k:T)(g:k.size≤1000000)(b:Nat)(deep:Int)(hd:0≤deep∧deep≤900)(μ:Mem)(hb:oM μ ⟨b,0,none⟩ (.int .i64 deep)):
 aF3 151 [.pointer (some ⟨b,0,none⟩)] μ (GZ deep) k:=by
 intro w μ1 u hμ hle hk;refine aQ Tryz.func151 rfl Tryz.ntmps151 (by simp) hμ ?_;have h:=hb.mono hle;unfold GZ;try repeat' (first|refine KO ?_|((with_reducible apply C1);exact rfl;exact EN;exact fun w μc hk j=>jM w μc hk k u)|((with_reducible apply C2);exact rfl;exact EN;exact fun w hw=>jB k w μ1 u hw hk g;rintro v2 μ2 i ⟨u2,rfl,d⟩)|((with_reducible apply eD);(iterate 5 exact rfl);exact iW d.one;exact rfl;(repeat first|with_reducible exact fL|with_reducible apply dY))|(refine KV (b:=by((with_reducible apply qJ);exact rfl;exact rfl;exact h)) (c:=?_))|refine KZ ?_|refine NB fun b=>?_|(refine KB ?_ ?_<;>intro hp))
 ·rw[if_pos (by omega)];exact fE rfl (RG 0 rfl rfl rfl rfl rfl) (aN rfl) (fun μ' a hL=>TEV.zero μ' 10)
 ·rw[if_neg (by omega),if_pos (by simp_all)];exact fE rfl (RG 0 rfl rfl rfl rfl rfl) (aN rfl) (fun μ' a hL=>⟨_,rfl,d.mono a⟩)
 ·rw[if_neg (by omega),if_neg (by simp_all)];exact fE rfl (RG 0 rfl rfl rfl rfl rfl) (aN rfl) (fun μ' a hL=>TEV.zero μ' 24)
theorem VK(el:T→Int→Bool→TE)(w:World)(μ:Mem)(hμ:MOk μ w)(ks:List T)(kv:Value)(hk:KR μ ks kv)(i:Nat)(t:T)(hi:ks[i]? =some t)(j:t.size≤1000000)(hn:ks.length≤1000000)(deep:Int)(hd:0≤deep∧deep≤900)
 (ab:QW el t)(x:∀k∈t.kids,QW el k):
 Calls Tryz.prog 133 #[kv,.int .i64 i,.int .i64 deep] w fun e w' =>∃v μ',e=.returned v∧oH w w' μ μ' ∧TEV μ' (sY el ks i deep) v:=by
 refine aQ Tryz.func133 rfl Tryz.ntmps133 (by simp) hμ ?_;obtain⟨A,c,rfl,hcap,y⟩:=hk.form;have ae:i<ks.length:=(List.getElem?_eq_some_iff.1 hi).1;obtain⟨ad,u,rfl,hm,ho,p⟩:=y i t hi;have hF:sY el ks i deep=if t.op=41 then oJ ks i deep (fun k=>el k (deep+1) false)else if t.op=40 then(t,0)else el t deep true:=by unfold sY;rw[hi]
 rw[hF];clear hF;by_cases z:t.op=41
 ·rw[if_pos z];try repeat' (first|refine KO ?_|(refine KV (b:=by first|exact U1 i|exact U4 hm) (c:=?_))|refine KZ ?_|refine NB fun b=>?_)
  refine VU rfl ?_;intro μ1 o l;have hb:=oM.YG l rfl;have h:∀k,t.kids=[k]→k∈t.kids:=fun k hk=>by rw[hk];simp
  have q:∀k,t.kids=[k]→k.size≤1000000:=fun k hk=>by
   have:t.kids[0]? =some k:=by rw[hk];rfl
   have:=T.dX this;omega
  try repeat' (first|refine KO ?_|((with_reducible apply C2);exact rfl;exact EN;exact fun w hw=>HT w μ1 hw ks _ (hk.mono o) i t hi hn deep _ [_] (by kernel_rfl) _ (fun k r=>YY el k (x k (h k r)) (q k r) _ deep hd μ1 hb);rintro v2 μ2 g ⟨u2,rfl,d⟩)|((with_reducible apply eD);(iterate 5 exact rfl);exact iW d.one;exact rfl;(repeat first|with_reducible exact fL|with_reducible apply dY)))
  exact fE rfl (RG 0 rfl rfl rfl rfl rfl) (aN rfl) (fun μ' a hL=>⟨_,rfl,d.mono a⟩)
 ·rw[if_neg z];by_cases aa:t.op=40
  ·rw[if_pos aa];try repeat' (first|refine KO ?_|((with_reducible apply C2);exact rfl;exact EN;(exact fun w hw=>jB t w μ u hw p j);rintro v2 μ2 g ⟨u2,rfl,d⟩)|((with_reducible apply eD);(iterate 5 exact rfl);exact iW d.one;exact rfl;(repeat first|with_reducible exact fL|with_reducible apply dY))|(refine KV (b:=by first|exact U1 i|exact U4 hm) (c:=?_))|refine KZ ?_|refine NB fun b=>?_)
   exact fE rfl (RG 0 rfl rfl rfl rfl rfl) (aN rfl) (fun μ' a hL=>⟨_,rfl,d.mono a⟩)
  ·rw[if_neg aa];try repeat' (first|refine KO ?_|(refine KV (b:=by first|exact U1 i|exact U4 hm) (c:=?_))|refine KZ ?_|refine NB fun b=>?_)
   refine aW 10 _ (by kernel_rfl) rfl (aG (aK aU)) ?_;all_goals(refine D1 0 ?_;refine D1 1 ?_;refine D2 2 rfl (by exact U1 i) ?_;refine D2 3 rfl (by exact U4 hm) ?_;refine DD 4 ?_)
   all_goals(refine D3 5 ?_;refine D5 ?_;(with_reducible apply C2);exact rfl;exact EN;exact fun w hw=>ab w μ u deep true hw p j (by omega);rintro v2 μ2 g ⟨u2,rfl,d⟩;refine D9 ?_)
   all_goals(refine D1 6 ?_;refine D1 7 ?_)
   all_goals(refine D3 8 ?_;refine D5 ?_;(((with_reducible apply eD);(iterate 5 exact rfl);exact iW d.one;exact rfl;(repeat first|with_reducible exact fL|with_reducible apply dY)));refine D9 ?_)
   all_goals(refine D1 9 ?_;refine D8 ?_)
   try repeat' (refine KZ ?_)
   exact fE rfl (RG 0 rfl rfl rfl rfl rfl) (aN rfl) (fun μ' a hL=>⟨_,rfl,d.mono a⟩)
theorem OZ(el:T→Int→Bool→TE)(w:World)(μ:Mem)(hμ:MOk μ w)(ks:List T)(kv:Value)(hk:KR μ ks kv)(i:Nat)(t:T)(hi:ks[i]? =some t)(ak:t.size≤1000000)(hn:ks.length≤1000000)(deep:Int)(hd:0≤deep∧deep≤900)
 (ah:∀k∈t.kids,QW el k):
 Calls Tryz.prog 134 #[kv,.int .i64 i,.int .i64 deep] w fun e w' =>∃v μ',e=.returned v∧oH w w' μ μ' ∧TEV μ' (mY el ks i deep) v:=by
 refine aQ Tryz.func134 rfl Tryz.ntmps134 (by simp) hμ ?_;obtain⟨A,c,rfl,hcap,aj⟩:=hk.form;have av:i<ks.length:=(List.getElem?_eq_some_iff.1 hi).1;obtain⟨ad,u,rfl,hm,ho,af⟩:=aj i t hi;obtain⟨A1,c1,rfl,au,o⟩:=af.form;by_cases h4:t.op=39∧t.n=4
 ·have l:mY el ks i deep=oJ ks i deep (GZ deep):=by unfold mY;rw[hi];exact if_pos h4
  rw[l];clear l;try repeat' (first|refine KO ?_|((with_reducible apply eD);(iterate 5 exact rfl);exact iW ho;exact rfl;(repeat first|with_reducible exact fL|with_reducible apply dY))|(refine KV (b:=by first|exact U1 i|exact U4 hm) (c:=?_))|refine KZ ?_|refine NB fun b=>?_)
  refine VT rfl ?_;intro μ1 ae r;have hb:=oM.YG r rfl;have ag:∀k,t.kids=[k]→k.size≤1000000:=fun k hk=>by
   have:t.kids[0]? =some k:=by rw[hk];rfl
   have:=T.dX this;omega
  try repeat' (first|refine KO ?_|((with_reducible apply C2);exact rfl;exact EN;exact fun w hw=>HT w μ1 hw ks _ (hk.mono ae) i t hi hn deep _ [_] (by kernel_rfl) _ (fun k ap=>YC k (ag k ap) _ deep hd μ1 hb);rintro v2 μ2 h ⟨u2,rfl,d⟩)|((with_reducible apply ET);(iterate 5 exact rfl);exact iW d.one;exact rfl;(repeat first|with_reducible exact fL|with_reducible apply dY)))
  exact fE rfl (RG 1 rfl rfl rfl rfl rfl) (aN rfl) (fun μ' g hL=>⟨_,rfl,d.mono g⟩)
 ·by_cases j:deep>200
  ·have l:mY el ks i deep=kN 10:=by unfold mY;rw[hi];simp only[if_neg h4,if_pos j]
   rw[l];clear l;try repeat' (first|refine KO ?_|((with_reducible apply eD);(iterate 5 exact rfl);exact iW ho;exact rfl;(repeat first|with_reducible exact fL|with_reducible apply dY))|(refine KV (b:=by first|exact U1 i|exact U4 hm) (c:=?_))|refine KZ ?_|refine NB fun b=>?_|(refine KB ?_ ?_<;>intro hp))
   all_goals exact fE rfl (RG 1 rfl rfl rfl rfl rfl) (aN rfl) (fun μ' _ _=>TEV.zero μ' 10)
  ·by_cases h3:t.op=39∧t.n=3
   ·have l:mY el ks i deep=nF t deep:=by unfold mY;rw[hi];simp only[if_neg h4,if_neg j,if_pos h3]
    rw[l];clear l;try repeat' (first|refine KO ?_|((with_reducible apply C2);exact rfl;exact EN;(exact fun w hw=>OG w μ hw t _ af ak deep (by omega));rintro v2 μ2 h ⟨u2,rfl,d⟩)|((with_reducible apply eD);(iterate 5 exact rfl);exact iW ho;exact rfl;(repeat first|with_reducible exact fL|with_reducible apply dY))|((with_reducible apply ET);(iterate 5 exact rfl);exact iW d.one;exact rfl;(repeat first|with_reducible exact fL|with_reducible apply dY))|(refine KV (b:=by first|exact U1 i|exact U4 hm) (c:=?_))|refine KZ ?_|refine NB fun b=>?_)
    all_goals exact fE rfl (RG 1 rfl rfl rfl rfl rfl) (aN rfl) (fun μ' g hL=>⟨_,rfl,d.mono g⟩)
   ·by_cases h0:t.op=39∧t.n=0∧t.kids.length=2
    ·obtain⟨az,ay,h2⟩:=h0;have hx:t.kids[0]? =some t.kids[0]:=aI (by omega);have q:t.kids[1]? =some t.kids[1]:=aI (by omega);generalize t.kids[0]=x at hx;generalize t.kids[1]=y at q;obtain⟨ad1,u0,rfl,ao,ax,ar⟩:=o 0 x hx;obtain⟨_,u1,e1,an,aw,ai⟩:=o 1 y q;cases e1;have al:x.size≤1000000:=by have:=T.dX hx;omega
     have z:y.size≤1000000:=by have:=T.dX q;omega
     have p:=ah y (aZ q);have l:mY el ks i deep=if(el y (deep+1) true).2≠0 then kN (el y (deep+1) true).2 else(T.mk 62 t.at' 0 t.m empty [x,(el y (deep+1) true).1],0):=by unfold mY;rw[hi];simp only[if_neg h4,if_neg j,if_neg h3,aDn h2 hx q];exact if_neg (by omega)
     rw[l];clear l;try repeat' (first|refine KO ?_|((with_reducible apply eD);(iterate 5 exact rfl);exact iW ho;exact rfl;(repeat first|with_reducible exact fL|with_reducible apply dY))|(refine KV (b:=by first|exact U1 i|exact U4 hm) (c:=?_))|refine KZ ?_|refine NB fun b=>?_)
     refine aW 13 _ (by kernel_rfl) rfl (aK (aG (aK aU))) ?_;all_goals(refine D1 0 ?_;refine DD 1 ?_;refine D2 2 rfl (by exact U1 1) ?_;refine D2 3 rfl (by exact U4 an) ?_;refine DD 4 ?_;refine DD 5 ?_)
     refine dS 6 10 (by kernel_rfl) ?dr2_6 ?dr2_10
     case' dr2_6=>
      (refine D5 ?_;(with_reducible apply C2);exact rfl;exact EN;exact fun w hw=>p w μ u1 (deep+1) true hw ai z (by omega);rintro v2 μ2 h ⟨u2,rfl,d⟩;refine D9 ?_)
      all_goals(refine D1 7 ?_;refine D1 8 ?_;refine D1 9 ?_;refine D3 10 ?_;refine D5 ?_;refine NB fun b=>?_;refine D9 ?_)
      all_goals(refine D3 11 ?_;refine D5 ?_;(((with_reducible apply eD);(iterate 5 exact rfl);exact iW d.one;exact rfl;(repeat first|with_reducible exact fL|with_reducible apply dY)));refine D9 ?_)
      all_goals(refine D1 12 ?_;refine D8 ?_)
     case' dr2_10=>
      (refine D5 ?_;refine NB fun b=>?_;refine D9 ?_)
      all_goals(refine D3 6 ?_;refine D5 ?_;(with_reducible apply C2);exact rfl;exact EN;exact fun w hw=>p w μ u1 (deep+1) true hw ai z (by omega);rintro v2 μ2 h ⟨u2,rfl,d⟩;refine D9 ?_)
      all_goals(refine D1 7 ?_;refine D1 8 ?_;refine D1 9 ?_)
      all_goals(refine D3 11 ?_;refine D5 ?_;(((with_reducible apply eD);(iterate 5 exact rfl);exact iW d.one;exact rfl;(repeat first|with_reducible exact fL|with_reducible apply dY)));refine D9 ?_)
      all_goals(refine D1 12 ?_;refine D8 ?_)
     all_goals try repeat' (first|refine KZ ?_|(refine KB ?_ ?_<;>intro hp))
     all_goals first
      |(rw[if_pos hp];exact fE rfl (RG 2 rfl rfl rfl rfl rfl) (aN rfl) (fun μ' _ _=>TEV.zero μ' _))
      |rw[if_neg hp]
     all_goals have aa:=ao.mono h
     all_goals
      refine aW 14 _ (by kernel_rfl) rfl (aK (aK aU)) ?_;all_goals(refine D1 0 ?_;refine DD 1 ?_;refine D1 2 ?_;refine DD 3 ?_;refine D1 4 ?_;refine DD 5 ?_;refine D2 6 rfl (by exact U1 0) ?_;refine D2 7 rfl (by exact U4 aa) ?_;refine DD 9 ?_)
      all_goals(refine D3 8 ?_;refine D5 ?_;(with_reducible apply C2);exact rfl;exact EN;exact fun w hw=>jB x w μ2 u0 hw (ar.mono h) al;rintro v3 μ3 ab ⟨u3,rfl,aq⟩;refine D9 ?_)
      all_goals(refine D3 10 ?_;refine D5 ?_;refine NB fun b=>?_;refine D9 ?_;refine D1 11 ?_;refine D3 12 ?_;refine D5 ?_;refine Y0 ?_;refine D9 ?_;refine D1 13 ?_;refine D8 ?_)
     all_goals try repeat' (refine KZ ?_)
     all_goals exact fE rfl (RG 3 rfl rfl rfl rfl rfl) (aN rfl) (fun μ' g hL=>⟨_,rfl,KR.lit [(x,u3),((el y (deep+1) true).1,u2)] (hL _ (dN _)) rfl (by repeat first|exact bH|refine bA rfl ?_) (Kids.two (aq.mono g) (d.mono (ab.trans g)))⟩)
    ·have l:mY el ks i deep=kN 24:=by
      unfold mY;rw[hi];simp only[if_neg h4,if_neg j,if_neg h3];split
      ·rfl
      ·split
       ·rename_i a b he;exfalso;rw[he]at h0;simp at h0;omega
       ·rfl
     rw[l];try repeat' (first|refine KO ?_|((with_reducible apply eD);(iterate 5 exact rfl);exact iW ho;exact rfl;(repeat first|with_reducible exact fL|with_reducible apply dY))|(refine KV (b:=by first|exact U1 i|exact U4 hm) (c:=?_))|refine KZ ?_|refine NB fun b=>?_|(refine KB ?_ ?_<;>intro hp))
     all_goals exact fE rfl (RG 1 rfl rfl rfl rfl rfl) (aN rfl) (fun μ' _ _=>TEV.zero μ' 24)
theorem FC{g:Nat→TE}{n:Nat}(h:∀j,j<n→(g j).2=0):BG g n=none:=by
 unfold BG;rw[List.find?_eq_none];intro x a;simp at a;simp[h x a]
theorem FB{g:Nat→TE}{n i:Nat}(hi:i<n)(h:∀j,j<i→(g j).2=0)(he:(g i).2≠0):BG g n=some i:=by
 unfold BG;rw[List.find?_eq_some_iff_getElem];refine⟨by simpa using he,i,by simpa using hi,by simp,fun j a=>?_⟩;simp[h j a]
theorem rB{t:T}{b:Bool}(h:gJ t=b)(w:World)(μ:Mem)(hμ:MOk μ w)(kv:Value):
 aO 130 #[.agg (dG t kv).toArray] w (.bool b):=by
 have:=tS w μ hμ t kv;rwa[h]at this
theorem JS(N:Nat)(ih:∀t:T,t.size≤N→QW (elF N) t)(t:T)(ht:t.size≤N+1):QW (elF (N+1)) t:=by
 intro w μ kv deep may hμ hk al hd;refine aQ Tryz.func116 rfl Tryz.ntmps116 (by simp) hμ ?_;have au:=hk.one;by_cases x:deep>200
 ·have hF:elF (N+1) t deep may=kN 10:=by unfold elF;rw[if_pos x]
  rw[hF];repeat' (first|(with_reducible (first|apply pT|apply jD|apply rX|apply mF|apply sG|apply mK))|((with_reducible apply g_p);exact rfl)|((with_reducible apply vS);exact rfl)|((with_reducible apply rA);omega)|((with_reducible apply GL);(iterate 3 exact rfl);intro b)|((with_reducible apply BV);exact rfl;exact rfl;(repeat first|with_reducible exact eG|((with_reducible apply dO);exact rfl));(repeat with_reducible apply pO);exact rfl;(repeat first|with_reducible exact fL|with_reducible apply dY)))
  exact fE rfl (RG 0 rfl rfl rfl rfl rfl) (aN rfl) (fun μ' _ _=>TEV.zero μ' 10)
 ·cases d:gJ t
  ·by_cases q:t.op=46∧may=true∧t.s=⟨#[61]⟩∧t.kids.length=2
   ·have hF:elF (N+1) t deep may=nI t deep:=by unfold elF;rw[if_neg x,if_neg (by simp[d]),if_pos q]
    rw[hF];obtain⟨ax,ao,hs,h2⟩:=q;subst ao;obtain⟨A,c,rfl,hcap,ap⟩:=hk.form;repeat' (first|(with_reducible (first|apply pT|apply jD|apply rX|apply mF|apply sG|apply rV|apply mK))|((with_reducible apply g_p);exact rfl)|((with_reducible apply oP);(iterate 3 exact rfl);(first|exact EN|exact EN);exact fun w μc hk ae=>rB d w μc hk _)|((with_reducible apply oQ);(iterate 3 exact rfl);exact EN;exact fun w hw=>FK w μ hw t _ hk al h2 deep (by omega);rintro v2 μ2 o ⟨u2,rfl,h⟩)|((with_reducible apply eD);(iterate 5 exact rfl);exact iW h.one;exact rfl;(repeat first|with_reducible exact fL|with_reducible apply dY))|((with_reducible apply vS);exact rfl)|(with_reducible (apply HJ))|((with_reducible apply rA);omega)|((with_reducible apply pF);omega)|((with_reducible apply EU);exact rfl;exact rfl;(repeat first|with_reducible exact bT|with_reducible apply cG);exact rfl)|((with_reducible apply GL);(iterate 3 exact rfl);intro b)|((with_reducible apply ZP);exact rfl;(fail_if_success (with_reducible show uL true));(fail_if_success (with_reducible show uL false));exact VI _))
    all_goals exact fE rfl (RG 0 rfl rfl rfl rfl rfl) (aN rfl) (fun μ' l hL=>⟨_,rfl,h.mono l⟩)
   ·obtain⟨A,c,rfl,hcap,ap⟩:=hk.form;by_cases af:t.op=37∨t.op=38
    ·generalize hg:(fun i=>if t.op=37 then sY (elF N) t.kids i (deep+1)else mY (elF N) t.kids i (deep+1))=g;have hF:elF (N+1) t deep may=match BG g t.kids.length with
      |some i=>kN (g i).2
      |none=>(T.mk (if t.op=37 then 60 else 61) t.at' 0 0 empty ((List.range t.kids.length).map fun i=>(g i).1),0):=by
      subst hg;unfold elF;rw[if_neg x,if_neg (by simp[d]),if_neg q,if_pos af];try rfl
     rw[hF];clear hF;have av:t.size=1+IN t.kids:=T.size_eq t;have aw:=ED t.kids;have hit:t.op=37→∀(w:World) (μ' :Mem) (i:Nat),MOk μ' w→MLe μ μ' →i<t.kids.length→Calls Tryz.prog 133 #[.slice A t.kids.length c,.int .i64 i,.int .i64 (deep+1)] w fun e w' =>∃v μ'',e=.returned v∧oH w w' μ' μ'' ∧TEV μ'' (g i) v:=by
      intro r w μ' i hw hle hi;have ab:t.kids[i]? =some t.kids[i]:=aI hi;have aq:=T.dX ab;have:=VK (elF N) w μ' hw t.kids _ (hk.mono hle) i _ ab (by omega) (by omega) (deep+1) (by omega) (ih _ (by omega)) (fun k hk=>by
       obtain⟨j,hj⟩:=List.mem_iff_getElem?.1 hk;have:=T.dX hj;exact ih _ (by omega))
      have e:g i=sY (elF N) t.kids i (deep+1):=by rw[←hg];exact if_pos r
      rw[e];exact this
     have ar:t.op≠37→∀(w:World) (μ' :Mem) (i:Nat),MOk μ' w→MLe μ μ' →i<t.kids.length→Calls Tryz.prog 134 #[.slice A t.kids.length c,.int .i64 i,.int .i64 (deep+1)] w fun e w' =>∃v μ'',e=.returned v∧oH w w' μ' μ'' ∧TEV μ'' (g i) v:=by
      intro r w μ' i hw hle hi;have ab:t.kids[i]? =some t.kids[i]:=aI hi;have aq:=T.dX ab;have:=OZ (elF N) w μ' hw t.kids _ (hk.mono hle) i _ ab (by omega) (by omega) (deep+1) (by omega) (fun k hk=>by
       obtain⟨j,hj⟩:=List.mem_iff_getElem?.1 hk;have:=T.dX hj;exact ih _ (by omega))
      have e:g i=mY (elF N) t.kids i (deep+1):=by rw[←hg];exact if_neg r
      rw[e];exact this
     clear hg;by_cases r:t.op=37
     ·have y:=hit r;rw[if_pos r];repeat' (first|(with_reducible (first|apply pT|apply jD|apply rX|apply mF|apply tA|apply rV|apply lS))|((with_reducible apply g_p);exact rfl)|((with_reducible apply oP);(iterate 3 exact rfl);exact EN;exact fun w μc hk ae=>rB d w μc hk _)|((with_reducible apply vS);exact rfl)|(with_reducible (apply HJ))|((with_reducible apply rA);omega)|((with_reducible apply pF);omega)|((with_reducible apply EU);exact rfl;exact rfl;(repeat first|with_reducible exact bT|with_reducible apply cG);exact rfl)|((with_reducible apply GL);(iterate 3 exact rfl);intro b)|((with_reducible apply BV);exact rfl;exact rfl;(repeat first|with_reducible exact eG|((with_reducible apply dO);exact rfl));(repeat with_reducible apply pO);exact rfl;(repeat first|with_reducible exact fL|with_reducible apply dY))|((with_reducible apply ZP);exact rfl;(fail_if_success (with_reducible show uL true));(fail_if_success (with_reducible show uL false));exact VI _))
      rename_i b3 b6;refine yA [(0,.int .i64 60),(1,.int .i64 t.at'),(2,.int .i64 0),(3,.int .i64 0),(4,.string ⟨#[]⟩),(5,.slice none 0 0)] (by repeat first|exact eK|refine cZ rfl ?_) ?_;refine dH (ι:=Nat×Value×Mem×List (T×Value)) (fun i=>i.1≤t.kids.length∧MLe μ i.2.2.1∧Kids i.2.2.1 i.2.2.2∧i.2.2.2.length=i.1∧i.2.2.2.map (·.1)=(List.range i.1).map (fun j=>(g j).1)∧∀j,j<i.1→(g j).2=0) (fun i=>t.kids.length-i.1) (fun i=>i.2.2.1) (fun i=>[(56,.int .i64 i.1),(55,.int .i64 t.kids.length),(9,.func (.func 133) #[] #[]),(8,.pointer (some ⟨b,0,none⟩)),(6,.pointer (some ⟨b6,0,none⟩)),(3,.pointer (some ⟨b3,0,none⟩)),(1,.int .i64 deep)]) (fun i=>[.inr ⟨i.2.1,25,6,i.1,i.2.2.2.flatMap bV⟩,.inl ⟨b,25,6,[(0,.int .i64 60),(1,.int .i64 t.at'),(2,.int .i64 0),(3,.int .i64 0),(4,.string ⟨#[]⟩),(5,i.2.1)]⟩,.inl ⟨b6,25,6,_⟩,.inl ⟨b3,25,6,_⟩]) (0,.slice none 0 0,μ,[]) ⟨by simp,MLe.refl _,(fun p hp=>by cases hp),rfl,rfl,fun j hj=>absurd hj (by simp)⟩ (fun a w hs=>(hs.kU 25 6).sub (by repeat first|exact eK|refine cZ rfl ?_) (by repeat exact aH _)) ?_;rintro⟨i,v,μ1,qs⟩ ⟨hi,hle,hq,z,aa,hz⟩;dsimp only at hi hle hq z aa hz⊢;refine iZ 0 rfl ?_;rintro A1 c1 rfl ai;by_cases ad:i<t.kids.length
      ·repeat' (first|(with_reducible (first|apply pT|apply jD|apply rX|apply mF|apply tA|apply sG|apply rV|apply mK|apply qD))|((with_reducible apply g_p);exact rfl)|((with_reducible apply oQ);(iterate 3 exact rfl);(((with_reducible apply NA);exact rfl;(assumption);(iterate 3 exact rfl)));exact fun w hw=>y w μ1 i hw hle ad;rintro v2 μ2 o ⟨u2,rfl,h⟩)|((with_reducible apply eD);(iterate 5 exact rfl);exact iW h.one;exact rfl;(repeat first|with_reducible exact fL|with_reducible apply dY))|((with_reducible apply vS);exact rfl)|((with_reducible apply rA);omega)|(with_reducible (refine CM (fun hp=>?_) (fun hp=>?_)))|((with_reducible apply ZS);exact rfl;omega)|((with_reducible apply EU);exact rfl;exact rfl;(repeat first|with_reducible exact bT|with_reducible apply cG);exact rfl)|((with_reducible apply GL);(iterate 3 exact rfl);intro b)|((with_reducible apply aFl);(iterate 3 exact rfl);intro b)|((with_reducible apply BV);exact rfl;exact rfl;(repeat first|with_reducible exact eG|((with_reducible apply dO);exact rfl));(repeat first|with_reducible apply pO|with_reducible apply tK);exact rfl;(repeat first|with_reducible exact fL|with_reducible apply dY)))
       ·rw[FB ad hz hp];exact fE rfl (RG 3 rfl rfl rfl rfl rfl) (aN rfl) (fun μ' _ _=>TEV.zero μ' _)
       ·have h1:∀u∈dG (g i).1 u2,u.oneCell' =true:=by have:=iW (t:=(g i).1) h.one;simpa only[fY]using this
        have ag:(g i).2=0:=by simpa using hp
        repeat' (first|((with_reducible apply g_p);exact rfl)|(((with_reducible apply pJ);(iterate 3 exact rfl);(repeat first|with_reducible exact eO|with_reducible apply gX);(iterate 6 exact rfl);(((with_reducible apply lV);exact rfl;(repeat with_reducible exact bT);exact rfl));exact rfl;(assumption);omega;omega;intro v)))
        refine bB 2 rfl ?_;rintro A2 c2 rfl an;repeat' (first|(with_reducible (first|apply jD|apply rX|apply mF|apply lS))|((with_reducible apply g_p);exact rfl)|((with_reducible apply ZS);exact rfl;omega)|((with_reducible apply BV);exact rfl;exact rfl;(repeat first|with_reducible exact eG|((with_reducible apply dO);exact rfl));(repeat first|with_reducible apply pO|with_reducible apply tK);exact rfl;(repeat first|with_reducible exact fL|with_reducible apply dY)))
        refine EO [(0,.int .i64 60),(1,.int .i64 t.at'),(2,.int .i64 0),(3,.int .i64 0),(4,.string ⟨#[]⟩),(5,.slice A2 (i+1) c2)] (by repeat first|exact eK|refine cZ rfl ?_) ?_;refine gG (i+1,.slice A2 (i+1) c2,μ2,qs++[((g i).1,u2)]) ⟨by dsimp only;omega,hle.trans o,?_,?_,?_,?_⟩ (by dsimp only;omega) rfl (by repeat first|exact eK|refine cZ rfl ?_) ?_
        ·intro p hp;rcases bU.1 hp with hp|hp
         ·exact(hq p hp).mono o
         ·simp at hp;subst hp;exact h
        ·dsimp only;simp[z]
        ·dsimp only;rw[aE,aa,lZ,aE];rfl
        ·intro j hj;dsimp only at hj;by_cases e:j=i
         ·subst e;exact ag
         ·exact hz j (by omega)
        ·dsimp only;rw[aD];exact(by repeat first|exact aH _|refine aG ?_)
      ·repeat' (first|(with_reducible (first|apply pT|apply jD|apply rX|apply mF|apply JQ|apply sG|apply tY|apply sF))|((with_reducible apply g_p);exact rfl)|((with_reducible apply vS);exact rfl)|((with_reducible apply pF);omega)|((with_reducible apply EU);exact rfl;exact rfl;(repeat first|with_reducible exact bT|with_reducible apply cG);exact rfl)|((with_reducible apply BV);exact rfl;exact rfl;(repeat first|with_reducible exact eG|((with_reducible apply dO);exact rfl));(repeat first|with_reducible apply pO|with_reducible apply tK);exact rfl;(repeat first|with_reducible exact fL|with_reducible apply dY)))
       have aj:i=t.kids.length:=by omega
       subst aj;rw[FC hz];refine fE rfl (RG 2 rfl rfl rfl rfl rfl) (aN rfl) (fun μ' l hL=>⟨.slice A1 t.kids.length c1,rfl,?_⟩);have ah:=hL _ (dN _);have ak:=bD (enc:=bV) (xs:=qs) ah z (by simp) rfl;have:=KR.bI ak ai.cap (hq.mono l);rwa[aa]at this
     ·have y:=ar r;rw[if_neg r];repeat' (first|(with_reducible (first|apply pT|apply jD|apply rX|apply mF|apply tA|apply rV|apply lS))|((with_reducible apply g_p);exact rfl)|((with_reducible apply oP);(iterate 3 exact rfl);exact EN;exact fun w μc hk ae=>rB d w μc hk _)|((with_reducible apply vS);exact rfl)|(with_reducible (apply HJ))|((with_reducible apply rA);omega)|((with_reducible apply pF);omega)|((with_reducible apply EU);exact rfl;exact rfl;(repeat first|with_reducible exact bT|with_reducible apply cG);exact rfl)|((with_reducible apply GL);(iterate 3 exact rfl);intro b)|((with_reducible apply BV);exact rfl;exact rfl;(repeat first|with_reducible exact eG|((with_reducible apply dO);exact rfl));(repeat with_reducible apply pO);exact rfl;(repeat first|with_reducible exact fL|with_reducible apply dY))|((with_reducible apply ZP);exact rfl;(fail_if_success (with_reducible show uL true));(fail_if_success (with_reducible show uL false));exact VI _))
      rename_i b3 b6;refine yA [(0,.int .i64 61),(1,.int .i64 t.at'),(2,.int .i64 0),(3,.int .i64 0),(4,.string ⟨#[]⟩),(5,.slice none 0 0)] (by repeat first|exact eK|refine cZ rfl ?_) ?_;refine dH (ι:=Nat×Value×Mem×List (T×Value)) (fun i=>i.1≤t.kids.length∧MLe μ i.2.2.1∧Kids i.2.2.1 i.2.2.2∧i.2.2.2.length=i.1∧i.2.2.2.map (·.1)=(List.range i.1).map (fun j=>(g j).1)∧∀j,j<i.1→(g j).2=0) (fun i=>t.kids.length-i.1) (fun i=>i.2.2.1) (fun i=>[(56,.int .i64 i.1),(55,.int .i64 t.kids.length),(9,.func (.func 134) #[] #[]),(8,.pointer (some ⟨b,0,none⟩)),(6,.pointer (some ⟨b6,0,none⟩)),(3,.pointer (some ⟨b3,0,none⟩)),(1,.int .i64 deep)]) (fun i=>[.inr ⟨i.2.1,25,6,i.1,i.2.2.2.flatMap bV⟩,.inl ⟨b,25,6,[(0,.int .i64 61),(1,.int .i64 t.at'),(2,.int .i64 0),(3,.int .i64 0),(4,.string ⟨#[]⟩),(5,i.2.1)]⟩,.inl ⟨b6,25,6,_⟩,.inl ⟨b3,25,6,_⟩]) (0,.slice none 0 0,μ,[]) ⟨by simp,MLe.refl _,(fun p hp=>by cases hp),rfl,rfl,fun j hj=>absurd hj (by simp)⟩ (fun a w hs=>(hs.kU 25 6).sub (by repeat first|exact eK|refine cZ rfl ?_) (by repeat exact aH _)) ?_;rintro⟨i,v,μ1,qs⟩ ⟨hi,hle,hq,z,aa,hz⟩;dsimp only at hi hle hq z aa hz⊢;refine iZ 0 rfl ?_;rintro A1 c1 rfl ai;by_cases ad:i<t.kids.length
      ·repeat' (first|(with_reducible (first|apply pT|apply jD|apply rX|apply mF|apply tA|apply sG|apply rV|apply mK|apply qD))|((with_reducible apply g_p);exact rfl)|((with_reducible apply oQ);(iterate 3 exact rfl);(((with_reducible apply NA);exact rfl;(assumption);(iterate 3 exact rfl)));exact fun w hw=>y w μ1 i hw hle ad;rintro v2 μ2 o ⟨u2,rfl,h⟩)|((with_reducible apply eD);(iterate 5 exact rfl);exact iW h.one;exact rfl;(repeat first|with_reducible exact fL|with_reducible apply dY))|((with_reducible apply vS);exact rfl)|((with_reducible apply rA);omega)|(with_reducible (refine CM (fun hp=>?_) (fun hp=>?_)))|((with_reducible apply ZS);exact rfl;omega)|((with_reducible apply EU);exact rfl;exact rfl;(repeat first|with_reducible exact bT|with_reducible apply cG);exact rfl)|((with_reducible apply GL);(iterate 3 exact rfl);intro b)|((with_reducible apply aFl);(iterate 3 exact rfl);intro b)|((with_reducible apply BV);exact rfl;exact rfl;(repeat first|with_reducible exact eG|((with_reducible apply dO);exact rfl));(repeat first|with_reducible apply pO|with_reducible apply tK);exact rfl;(repeat first|with_reducible exact fL|with_reducible apply dY)))
       ·rw[FB ad hz hp];exact fE rfl (RG 3 rfl rfl rfl rfl rfl) (aN rfl) (fun μ' _ _=>TEV.zero μ' _)
       ·have h1:∀u∈dG (g i).1 u2,u.oneCell' =true:=by have:=iW (t:=(g i).1) h.one;simpa only[fY]using this
        have ag:(g i).2=0:=by simpa using hp
        repeat' (first|((with_reducible apply g_p);exact rfl)|(((with_reducible apply pJ);(iterate 3 exact rfl);(repeat first|with_reducible exact eO|with_reducible apply gX);(iterate 6 exact rfl);(((with_reducible apply lV);exact rfl;(repeat with_reducible exact bT);exact rfl));exact rfl;(assumption);omega;omega;intro v)))
        refine bB 2 rfl ?_;rintro A2 c2 rfl an;repeat' (first|(with_reducible (first|apply jD|apply rX|apply mF|apply lS))|((with_reducible apply g_p);exact rfl)|((with_reducible apply ZS);exact rfl;omega)|((with_reducible apply BV);exact rfl;exact rfl;(repeat first|with_reducible exact eG|((with_reducible apply dO);exact rfl));(repeat first|with_reducible apply pO|with_reducible apply tK);exact rfl;(repeat first|with_reducible exact fL|with_reducible apply dY)))
        refine EO [(0,.int .i64 61),(1,.int .i64 t.at'),(2,.int .i64 0),(3,.int .i64 0),(4,.string ⟨#[]⟩),(5,.slice A2 (i+1) c2)] (by repeat first|exact eK|refine cZ rfl ?_) ?_;refine gG (i+1,.slice A2 (i+1) c2,μ2,qs++[((g i).1,u2)]) ⟨by dsimp only;omega,hle.trans o,?_,?_,?_,?_⟩ (by dsimp only;omega) rfl (by repeat first|exact eK|refine cZ rfl ?_) ?_
        ·intro p hp;rcases bU.1 hp with hp|hp
         ·exact(hq p hp).mono o
         ·simp at hp;subst hp;exact h
        ·dsimp only;simp[z]
        ·dsimp only;rw[aE,aa,lZ,aE];rfl
        ·intro j hj;dsimp only at hj;by_cases e:j=i
         ·subst e;exact ag
         ·exact hz j (by omega)
        ·dsimp only;rw[aD];exact(by repeat first|exact aH _|refine aG ?_)
      ·repeat' (first|(with_reducible (first|apply pT|apply jD|apply rX|apply mF|apply JQ|apply sG|apply tY|apply sF))|((with_reducible apply g_p);exact rfl)|((with_reducible apply vS);exact rfl)|((with_reducible apply pF);omega)|((with_reducible apply EU);exact rfl;exact rfl;(repeat first|with_reducible exact bT|with_reducible apply cG);exact rfl)|((with_reducible apply BV);exact rfl;exact rfl;(repeat first|with_reducible exact eG|((with_reducible apply dO);exact rfl));(repeat first|with_reducible apply pO|with_reducible apply tK);exact rfl;(repeat first|with_reducible exact fL|with_reducible apply dY)))
       have aj:i=t.kids.length:=by omega
       subst aj;rw[FC hz];refine fE rfl (RG 2 rfl rfl rfl rfl rfl) (aN rfl) (fun μ' l hL=>⟨.slice A1 t.kids.length c1,rfl,?_⟩);have ah:=hL _ (dN _);have ak:=bD (enc:=bV) (xs:=qs) ah z (by simp) rfl;have:=KR.bI ak ai.cap (hq.mono l);rwa[aa]at this
    ·have hF:elF (N+1) t deep may=kN 24:=by unfold elF;rw[if_neg x,if_neg (by simp[d]),if_neg q,if_neg af]
     rw[hF];repeat' (first|(with_reducible (first|apply pT|apply jD|apply rX|apply mF|apply tA|apply sG|apply rV|apply mK|apply qD))|((with_reducible apply g_p);exact rfl)|((with_reducible apply oP);(iterate 3 exact rfl);(first|exact EN|exact EN);exact fun w μc hk ae=>rB d w μc hk _)|((with_reducible apply vS);exact rfl)|(with_reducible (apply HJ))|((with_reducible apply pF);omega)|(with_reducible (first|refine CM (fun hp=>?_) (fun hp=>?_)|refine aDl (fun hp=>?_) (fun hp=>?_)))|((with_reducible apply EU);exact rfl;exact rfl;(repeat first|with_reducible exact bT|with_reducible apply cG);exact rfl)|((with_reducible apply GL);(iterate 3 exact rfl);intro b)|((with_reducible apply BV);exact rfl;exact rfl;(repeat first|with_reducible exact eG|((with_reducible apply dO);exact rfl));(repeat first|with_reducible apply pO|with_reducible apply tK);exact rfl;(repeat first|with_reducible exact fL|with_reducible apply dY))|((with_reducible apply ZP);exact rfl;(fail_if_success (with_reducible show uL true));(fail_if_success (with_reducible show uL false));exact VI _))
     all_goals first|(exfalso;exact q ⟨by assumption,by assumption,by assumption,by omega⟩)|exact fE rfl (RG 1 rfl rfl rfl rfl rfl) (aN rfl) (fun μ' l hL=>TEV.zero μ' 24)
  ·have hF:elF (N+1) t deep may=(t,0):=by unfold elF;rw[if_neg x,if_pos d]
   rw[hF];repeat' (first|(with_reducible (first|apply pT|apply jD|apply rX|apply mF|apply sG|apply rV|apply mK))|((with_reducible apply g_p);exact rfl)|((with_reducible apply oP);(iterate 3 exact rfl);exact EN;exact fun w μc hk ae=>rB d w μc hk _)|((with_reducible apply oQ);(iterate 3 exact rfl);exact EN;exact fun w hw=>jB t w μ kv hw hk al;rintro v2 μ2 o ⟨u2,rfl,h⟩)|((with_reducible apply eD);(iterate 5 exact rfl);exact iW h.one;exact rfl;(repeat first|with_reducible exact fL|with_reducible apply dY))|((with_reducible apply vS);exact rfl)|(with_reducible (apply YE))|((with_reducible apply pF);omega)|((with_reducible apply EU);exact rfl;exact rfl;(repeat first|with_reducible exact bT|with_reducible apply cG);exact rfl)|((with_reducible apply GL);(iterate 3 exact rfl);intro b))
   exact fE rfl (RG 0 rfl rfl rfl rfl rfl) (aN rfl) (fun μ' l hL=>⟨_,rfl,h.mono l⟩)
theorem MZ(N:Nat):∀t:T,t.size≤N→QW (elF N) t:=by
 induction N with
 |zero=>intro t ht;have:=T.size_eq t;omega
 |succ N ih=>exact fun t ht=>JS N ih t ht
def xY(t:T):TE:=elF t.size t 1 false
theorem sU(t:T)(w:World)(μ:Mem)(kv:Value)(hμ:MOk μ w)(hk:KR μ t.kids kv)(d:t.size≤1000000):
 Calls Tryz.prog 90 #[.agg (dG t kv).toArray] w fun e w' =>∃v μ',e=.returned v∧oH w w' μ μ' ∧TEV μ' (xY t) v:=by
 refine aQ Tryz.func90 rfl Tryz.ntmps90 (by simp) hμ ?_;repeat' (first|(with_reducible (first|apply pT|apply jD|apply rX|apply mF|apply sG))|((with_reducible apply g_p);exact rfl)|((with_reducible apply oQ);(iterate 3 exact rfl);exact EN;exact fun w hw=>MZ t.size t (aP _) w μ kv 1 false hw hk d (by omega);rintro v2 μ2 g ⟨u2,rfl,c⟩)|((with_reducible apply eD);(iterate 5 exact rfl);exact iW c.one;exact rfl;(repeat first|with_reducible exact fL|with_reducible apply dY))|((with_reducible apply EU);exact rfl;exact rfl;(repeat first|with_reducible exact bT|with_reducible apply cG);exact rfl)|((with_reducible apply GL);(iterate 3 exact rfl);intro b))
 exact fE rfl (RG 0 rfl rfl rfl rfl rfl) (aN rfl) (fun μ' a hL=>⟨_,rfl,c.mono a⟩)
end Go.Proofs.YtknieidhopbngaaGreat
