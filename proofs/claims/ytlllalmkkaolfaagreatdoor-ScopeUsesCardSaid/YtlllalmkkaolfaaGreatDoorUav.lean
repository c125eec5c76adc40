/- Package early's declarations against the flat list: patterns. -/
import Derived.Test.YtlllalmkkaolfaaGreatDoorUau
set_option maxRecDepth 20000
namespace Go.Proofs.YtlllalmkkaolfaaGreatDoor
section
open Go.RowKit Go.Vcg
structure Vk (t:T):Prop where
 vj:Vj t
 pos:1≤t.op
 n2:t.op=2→t.n=0∨t.n=1∨t.n=2
 fn:t.op=4→aPi t
 fb:t.op=4→(cQ t 1).op≠6→Qd (cQ t 1).op
 sht:t.op=39→t.n=3→∃k,t.kids=[k]∧k.op=31∧k.kids=[]
section
variable(E:List Fl)(R:RS)
def OkB(i j:Nat)(D:List (Nat×ByteArray))(ρ:Nat→Int)(s' :ES)(dO:Option Nat)(ys:List ByteArray):Prop:=∃D' ρ',Inv E R j (D++D') ρ' s' ∧(∀o,o<i→ρ' o=ρ o)∧Cov E i j D' ∧∀d0,dO=some d0→∀y∈ys,(d0,y)∈D'
def NJ(n:Nat)(N:T→EP→ES→ES)(k:T):Prop:=∀(up kid fn i c:Nat) (p:EP) (s:ES) (D:List (Nat×ByteArray)) (ρ:Nat→Int),AtG E n k (up:Int) kid fn i c→up<i→Inv E R i D ρ s→Place E R i p ρ→yO E R i p ρ k→(k.op≠1∧k.op≠3)→(k.op=6→(aH E up).t.op≠4)→(N k p s).e=0→Ok E R i (i+k.size) D ρ (N k p s)
def DI(i:Nat)(d:ED)(ρ:Nat→Int)(dO:Option Nat)(ys:List ByteArray):Prop:=∀d0,dO=some d0→d0<i∧∀y∈ys,∀o m b,Res E R d0 y o m b→d.lex=PK E d0∧ρ o∈d.ins
def BJ(n:Nat)(B:T→EP→ED→ES→ES)(k:T):Prop:=∀(up kid fn i c:Nat) (p:EP) (d:ED) (s:ES) (D:List (Nat×ByteArray)) (ρ:Nat→Int) (dO:Option Nat),AtG E n k (up:Int) kid fn i c→up<i→Inv E R i D ρ s→Place E R i p ρ→PtB k→DI E R i d ρ dO (bB k)→(B k p d s).e=0→OkB E R i (i+k.size) D ρ (B k p d s) dO (bB k)
end
section
variable{E:List Fl}{R:RS}
theorem OkB.ok{i j:Nat}{D:List (Nat×ByteArray)}{ρ:Nat→Int}{s' :ES}{dO:Option Nat}{ys:List ByteArray}(h:OkB E R i j D ρ s' dO ys):Ok E R i j D ρ s' :=by
 obtain⟨D',ρ',h1,h2,h3,-⟩:=h;exact⟨D',ρ',h1,h2,h3⟩
theorem Ok.okB{i j:Nat}{D:List (Nat×ByteArray)}{ρ:Nat→Int}{s' :ES}(dO:Option Nat)(h:Ok E R i j D ρ s'):OkB E R i j D ρ s' dO []:=by
 obtain⟨D',ρ',h1,h2,h3⟩:=h;exact⟨D',ρ',h1,h2,h3,fun _ _ y a=>by cases a⟩
theorem OkB.trans{i j k:Nat}{D:List (Nat×ByteArray)}{ρ:Nat→Int}{s1 s2:ES}{dO:Option Nat}{ys zs:List ByteArray}(hij:i≤j)(h1:OkB E R i j D ρ s1 dO ys)(h2:∀D1 ρ1,Inv E R j D1 ρ1 s1→(∀o,o<i→ρ1 o=ρ o)→OkB E R j k D1 ρ1 s2 dO zs):OkB E R i k D ρ s2 dO (ys++zs):=by
 obtain⟨D1,ρ1,a1,a2,a3,a4⟩:=h1;obtain⟨D2,ρ2,b1,b2,b3,b4⟩:=h2 _ _ a1 a2;refine⟨D1++D2,ρ2,by rw[←bA];exact b1,fun o ho=>by rw[b2 o (by omega),a2 o ho],fun d y h1 h2 h3=>?_,fun d0 h0 y a=>?_⟩
 ·by_cases hd:d<j
  ·exact cC _ (a3 d y h1 hd h3)
  ·exact dG _ (b3 d y (by omega) h2 h3)
 ·rcases List.mem_append.1 a with a|a
  ·exact cC _ (a4 d0 h0 y a)
  ·exact dG _ (b4 d0 h0 y a)
theorem OkB.head{i j:Nat}{D:List (Nat×ByteArray)}{ρ:Nat→Int}{s:ES}{dO:Option Nat}{ys:List ByteArray}(h:OkB E R (i+1) j D ρ s dO ys)(hc:(aH E i).t.op≠3):OkB E R i j D ρ s dO ys:=by
 obtain⟨D',ρ2,a1,a2,a3,a4⟩:=h;refine⟨D',ρ2,a1,fun o ho=>a2 o (by omega),fun d y h1 h2 h3=>?_,a4⟩;by_cases hd:i+1≤d
 ·exact a3 d y hd h2 h3
 ·obtain rfl:d=i:=by omega
  exact absurd h3.1 hc
theorem sD(wd:ByteArray→Int)(t:T)(x:ByteArray)(p:EP)(s:ES):(nO wd t x p s).names=s.names:=by
 unfold nO;dsimp only;rw[gN];split
 ·rw[gN,gN]
 ·rw[gN]
theorem VI{c:Bool}{a e:Int}{s:ES}(he:e≠0)(h:(iX c a e s).e=0):c=false∧s.e=0:=by
 unfold iX at h;split at h
 ·exact absurd h he
 ·rename_i hc;refine⟨?_,h⟩;cases c with
  |false=>rfl
  |true=>exact absurd ⟨rfl,h⟩ hc
theorem aLp{a b:ED}(h:nM a b=false){r:Int}(h1:r∈a.ins)(h2:r∈b.ins):a.lex=false∧b.lex=false:=by
 unfold nM at h;split at h
 ·cases h
 ·have:(a.ins.any fun r=>b.ins.contains r)=true:=List.any_eq_true.2 ⟨r,h1,List.contains_iff_mem.2 h2⟩;rw[this,iY,Bool.or_eq_false_iff]at h;exact h
theorem ZD{n:Nat}{g:ES→T→ES}(hg:∀s k,s.e≠0→(g s k).e≠0){pa fn:Nat}{ρ0:Nat→Int}(dO:Option Nat):∀(ks:List T) (j i c:Nat) (s:ES) (D:List (Nat×ByteArray)) (ρ:Nat→Int),(∀k∈ks,k.size≤n)→qF E n ks (pa:Int) j fn i c→pa<i→Inv E R i D ρ s→(∀o,o≤pa→ρ o=ρ0 o)→
 (∀k∈ks,∀(jj x c:Nat) (s:ES) D ρ,j≤jj→AtG E n k (pa:Int) jj fn x c→pa<x→Inv E R x D ρ s→(∀o,o≤pa→ρ o=ρ0 o)→(g s k).e=0→OkB E R x (x+k.size) D ρ (g s k) dO (bB k))→(ks.foldl g s).e=0→OkB E R i (i+szs ks) D ρ (ks.foldl g s) dO (ks.flatMap bB)
 | [],j,i,c,s,D,ρ,_,_,_,hI,_,_,_=>(Ok.skip hI (Nat.le_add_right ..) fun d h1 h2=>by
   rw[show szs []=0 from rfl]at h2;omega).okB dO
 | k::r,j,i,c,s,D,ρ,hk,hA,l,hI,a,hs,he=>by rw[bX]at he⊢;have e1:(g s k).e=0:=Decidable.byContradiction fun h=>pV hg r _ h he;have h1:=hs k (aE ..) j i c s D ρ (aC _) hA.hd l hI a e1;rw[bK,←cW,bU];refine h1.trans (Nat.le_add_right ..) fun D1 ρ1 f b=>?_;exact ZD hg dO r (j+1) _ _ _ D1 ρ1 (fun k h=>hk k (bP h)) (hA.tl (hk k (aE ..))) (by omega) f (fun o ho=>by rw[b o (by omega),a o ho]) (fun k h jj x c s D ρ p=>hs k (bP h) jj x c s D ρ (by omega)) he
theorem yO.no{i:Nat}{p:EP}{ρ:Nat→Int}{t:T}(h:Qd t.op):yO E R i p ρ t:=fun v hv h2=>by
 rcases hv with rfl|⟨h3,-⟩
 ·exact absurd h2 h.2.1
 ·exact absurd h3 h.2.2.2
theorem DI.sub{i x:Nat}{d:ED}{ρ ρ' :Nat→Int}{dO:Option Nat}{ys zs:List ByteArray}(hw:Fw E R)(h:DI E R i d ρ dO ys)(f:i≤x)(e:∀o,o<i→ρ' o=ρ o)(a:∀y,y∈zs→y∈ys):DI E R x d ρ' dO zs:=fun d0 h0=>by
 obtain⟨h1,h2⟩:=h d0 h0;refine⟨by omega,fun y c o m b hr=>?_⟩;rw[e o (by have:=hr.lt hw;omega)];exact h2 y (a y c) o m b hr
section
variable{wd:ByteArray→Int}{N:T→EP→ES→ES}{B:T→EP→ED→ES→ES}{n:Nat}
theorem aO6(hw:Fw E R)(ihN:∀k,k.size≤n→dJ Vk k→NJ E R n N k)(ihB:∀k,k.size≤n→dJ Vk k→BJ E R n B k)(hpN:∀k p s,s.e≠0→(N k p s).e≠0)(hpB:∀k p d s,s.e≠0→(B k p d s).e≠0){t:T}(hs:t.size≤n+1)(hq:dJ Vk t):BJ E R (n+1) (DF wd N B) t:=by
 intro up kid fn i c p d s D ρ dO hA hup hI hP ad w he;have av:=hA.eat;have het:(aH E i).t=t:=by rw[av]
 have ab:=aS t;have hlt:=hA.lt hs;have h4:t.op≠4:=by unfold PtB at ad;omega
 have h3:(aH E i).t.op≠3:=by rw[het];exact ad.d.2.2.1
 have ar:∀m,¬kI E R i m:=fun m=>sS hw (by omega) (IS (by rw[het];unfold PtB at ad;omega));have g:=hA.kids;unfold rQ kH at g;rw[if_neg h4,if_neg h4]at g;have hV:=hq.here.vj;have l:∀{x k jj c ρ'},AtG E n k (i:Int) jj fn x c→k.size≤n→i<x→(∀o,o≤i→ρ' o=ρ o)→Place E R x p ρ' :=fun{x k jj c ρ'} h hk hx e=>by
  have hu:(aH E x).up=(i:Int):=by obtain⟨m,rfl⟩:∃m,n=m+1:=⟨n-1,by have:=aS k;omega⟩;rw[h.eat]
  exact hP.kid hw (by have:=h.lt hk;have:=aS k;omega) hu hx (by rw[het];exact h4) (fun o ho=>e o (by omega)) (fun m hm=>absurd hm (ar m)) (fun r hr=>hr)
 unfold DF at he⊢;by_cases o34:t.op=34
 ·rw [if_pos o34]at he⊢;have aj:=hV.no (.inr (.inr o34));rw[aj,show szs []=0 from rfl]at ab;have an:=sD wd t t.s p s;unfold rV at he⊢;dsimp only at he⊢;obtain⟨ai,-⟩:=VI (by decide) he;rw[gN,an];rw[an]at ai;have ai:∀δ∈oA t.s s.names,nM δ d=false:=fun δ ao=>by have:=List.any_eq_false.1 ai δ ao;simpa using this
  rw[qR o34];have gX:∀y δ,δ∈oA y s.names→δ∈oA y (wX t.s (oA t.s s.names++[d]) s.names):=fun y δ h=>by
   rw[uU];split
   ·rename_i hy;subst hy;exact cC _ h
   ·exact h
  rw[ab];cases dO with
  | none=>
    refine⟨[],ρ,?_,fun _ _=>rfl,fun d y h1 h2 h5=>?_,fun d0 h0=>by cases h0⟩
    ·rw[eD];refine⟨fun p j=>Nat.lt_succ_of_lt (hI.lt p j),fun p j o m b hr=>?_,hI.pw⟩;obtain⟨δ,h1,h2⟩:=hI.rc p j o m b hr;exact⟨δ,gX _ _ h1,h2⟩
    ·obtain rfl:d=i:=by omega
     exact absurd h5.1 h3
  | some d0=>
    obtain⟨aw,al⟩:=w d0 rfl;rw[qR o34]at al;refine⟨[(d0,t.s)],ρ,?_,fun _ _=>rfl,fun d y h1 h2 h5=>?_,fun d1 h1 y hy=>?_⟩
    ·refine⟨fun p j=>?_,fun p j o m b hr=>?_,?_⟩
     ·rcases List.mem_append.1 j with j|j
      ·exact Nat.lt_succ_of_lt (hI.lt p j)
      ·rw[aJ.1 j];dsimp only;omega
     ·rcases List.mem_append.1 j with j|j
      ·obtain⟨δ,h1,h2⟩:=hI.rc p j o m b hr;exact⟨δ,gX _ _ h1,h2⟩
      ·rw[aJ.1 j]at hr⊢;dsimp only at hr⊢;refine⟨d,?_,al t.s (aJ.2 rfl) o m b hr⟩;rw[uU,if_pos rfl];exact dG _ (aJ.2 rfl)
     ·rw[List.pairwise_append];refine⟨hI.pw,List.pairwise_singleton _ _,fun p j q hq=>?_⟩;rw[aJ.1 hq];dsimp only;intro ap o m b h1 h2;obtain⟨δ,g1,g2,g3⟩:=hI.rc p j o m b h1;obtain⟨g4,g5⟩:=al t.s (aJ.2 rfl) o m b h2;rw[ap]at g1;have:=aLp (ai δ g1) g3 g5;rw[←g2,←g4];exact this
    ·obtain rfl:d=i:=by omega
     exact absurd h5.1 h3
    ·cases h1;rw[aJ.1 hy];exact aJ.2 rfl
 rw[if_neg o34]at he⊢;have ah:=qT o34;by_cases o51:t.op=51∨t.op=52
 ·rw[if_pos o51]at he;exact absurd (VI (by decide) he).1 (by decide)
 rw[if_neg o51]at he⊢;by_cases o63:t.op=63
 ·rw[if_pos o63]at he⊢;obtain⟨a,b,f,ha,hb⟩:=hV.df o63;have e0:cJ t 0=a:=by unfold cJ;rw[f];rfl
  have e1:cJ t 1=b:=by unfold cJ;rw[f];rfl
  rw[e0,e1]at he⊢;have z:a.size≤n:=eN hs (by rw[f];simp);have ae:b.size≤n:=eN hs (by rw[f];simp);have v:bB t=bB a++[]:=by rw[ah];unfold gA;rw[if_neg (by omega),if_pos (.inl o63),f];simp
  rw[v]at w⊢;rw[f]at g;rw[f,bK,bK,show szs []=0 from rfl]at ab;have ak:(B a p d s).e=0:=Decidable.byContradiction fun h=>hpN b p _ h he;have u:=g.hd;have ag:=(g.tl z).hd;refine OkB.head ?_ h3;rw[show i+t.size=i+1+a.size+b.size by omega];refine OkB.trans (Nat.le_add_right ..) (ihB a z (hq.kid (by rw[f];simp)) i 0 fn (i+1) _ p d s D ρ dO u (by omega) (hI.le (by omega)) (l u z (by omega) fun _ _=>rfl) ha (w.sub hw (by omega) (fun _ _=>rfl) fun y hy=>cC _ hy) ak) fun D1 ρ1 af aa=>?_;exact(ihN b ae (hq.kid (by rw[f];simp)) i 1 fn (i+1+a.size) _ p _ D1 ρ1 ag (by omega) af (l ag ae (by omega) fun o ho=>aa o (by omega)) (yO.no hb) hb.m (fun _=>by rw[het];exact h4) he).okB dO
 rw[if_neg o63]at he⊢;by_cases o62:t.op=62
 ·rw[if_pos o62]at he⊢;obtain⟨a,b,f,ha,hb⟩:=hV.pp o62;have e0:cJ t 0=a:=by unfold cJ;rw[f];rfl
  have e1:cJ t 1=b:=by unfold cJ;rw[f];rfl
  rw[e0,e1]at he⊢;have z:a.size≤n:=eN hs (by rw[f];simp);have ae:b.size≤n:=eN hs (by rw[f];simp);have v:bB t=[]++bB b:=by rw[ah];unfold gA;rw[if_neg (by omega),if_neg (by omega),if_pos o62,f];simp
  rw[v]at w⊢;rw[f]at g;rw[f,bK,bK,show szs []=0 from rfl]at ab;have ak:(N a p s).e=0:=Decidable.byContradiction fun h=>hpB b p d _ h he;have u:=g.hd;have ag:=(g.tl z).hd;refine OkB.head ?_ h3;rw[show i+t.size=i+1+a.size+b.size by omega];refine OkB.trans (Nat.le_add_right ..) ((ihN a z (hq.kid (by rw[f];simp)) i 0 fn (i+1) _ p s D ρ u (by omega) (hI.le (by omega)) (l u z (by omega) fun _ _=>rfl) (yO.no ha) ha.m (fun _=>by rw[het];exact h4) ak).okB dO) fun D1 ρ1 af aa=>?_;exact ihB b ae (hq.kid (by rw[f];simp)) i 1 fn (i+1+a.size) _ p d _ D1 ρ1 dO ag (by omega) af (l ag ae (by omega) fun o ho=>aa o (by omega)) hb (w.sub hw (by omega) (fun o ho=>aa o (by omega)) fun y hy=>dG _ hy) he
 rw[if_neg o62]at he⊢;by_cases o60:t.op=60∨t.op=61∨t.op=64
 ·rw[if_pos o60]at he⊢;have aq:=hV.pa (by omega);have v:bB t=t.kids.flatMap bB:=by
   rw[ah];unfold gA;by_cases o64:t.op=64
   ·rw[if_neg (by omega),if_pos (.inr o64)];obtain⟨a,ha⟩:=hV.rs o64;rw[ha];rfl
   ·rw[if_pos (by omega)]
  rw[v]at w⊢;refine OkB.head ?_ h3;rw[ab,←cW];exact ZD (fun s k h=>hpB k p d s h) dO t.kids 0 (i+1) _ s D ρ (fun k hk=>eN hs hk) g (by omega) (hI.le (by omega)) (fun _ _=>rfl) (fun k hk jj x c s D ρ1 _ u hx af aa au=>ihB k (eN hs hk) (hq.kid hk) i jj fn x c p d s D ρ1 dO u hx af (l u (eN hs hk) hx aa) (aq k hk) (w.sub hw (by omega) (fun o ho=>aa o (by omega)) fun y hy=>List.mem_flatMap.2 ⟨k,hk,hy⟩) au) he
 rw[if_neg o60]at he⊢;have aj:=hV.no (by unfold PtB at ad;omega);rw[aj,show szs []=0 from rfl]at ab;have v:bB t=[]:=by rw[ah];unfold gA;rw[if_neg (by unfold PtB at ad;omega),if_neg (by omega),if_neg (by omega)];rfl
 rw[v];exact(Ok.skip hI (by omega) fun d h1 h2=>by
  obtain rfl:d=i:=by omega
  exact h3).okB dO
end
end
end
section
open Go.RowKit Go.Vcg
def mG(y:ByteArray)(l:List Bd):Prop:=y∈l.map (·.name)
theorem aEy(y:ByteArray)(k:Int):∀l:List Bd,mG y (jY y k l)
 |[]=>by unfold jY mG;simp
 | b::r=>by
   unfold jY;by_cases h:b.name=y
   ·rw[if_pos h];split<;>(unfold mG;simp[h])
   ·rw[if_neg h];have:=aEy y k r;unfold mG at this⊢;rw[aL];exact bP this
theorem BA{x:ByteArray}(y:ByteArray)(k:Int):∀l:List Bd,mG x l→mG x (jY y k l)
 |[],h=>by unfold mG at h;simp at h
 | b ::r,h=>by
   unfold jY;by_cases hb:b.name=y
   ·rw[if_pos hb];split
    ·unfold mG at h⊢;rw[aL]at h⊢;exact h
    ·exact h
   ·rw[if_neg hb];unfold mG at h⊢;rw[aL,aR]at h⊢;exact h.imp id fun h=>BA y k r h
section
variable{x:ByteArray}
theorem BQ{α:Type}{g:List Bd→α→List Bd}(hg:∀l a,mG x l→mG x (g l a)):∀(zs:List α) (l:List Bd),mG x l→mG x (zs.foldl g l)
 |[],_,h=>h
 |a::r,l,h=>BQ hg r _ (hg l a h)
theorem wZ{α:Type}{g:List Bd→α→List Bd}(hg:∀l a,mG x l→mG x (g l a)){a:α}(hn:∀l,mG x (g l a)):∀(zs:List α) (l:List Bd),a∈zs→mG x (zs.foldl g l)
 |[],_,h=>by cases h
 | b::r,l,h=>by
   rcases aR.1 h with rfl|h
   ·exact BQ hg r _ (hn l)
   ·exact wZ hg hn r _ h
theorem XP{g:List Bd→Nat→List Bd}(hg:∀l a,mG x l→mG x (g l a)):∀(m i:Nat) (l:List Bd),mG x l→mG x (foldI g i m l)
 |0,_,_,h=>h
 |m+1,i,l,h=>XP hg m (i+1) _ (hg l i h)
theorem QR{g:List Bd→Nat→List Bd}(hg:∀l a,mG x l→mG x (g l a)){j:Nat}(hn:∀l,mG x (g l j)):∀(m i:Nat) (l:List Bd),i≤j→j<i+m→mG x (foldI g i m l)
 |0,i,_,h,h2=>by omega
 | m+1,i,l,h,h2=>by
   by_cases e:i=j
   ·subst e;exact XP hg m _ _ (hn l)
   ·exact QR hg hn m (i+1) _ (by omega) (by omega)
theorem SO(k:Int)(xs:List ByteArray)(l:List Bd)(h:mG x l):mG x (dT k xs l):=BQ (fun l a h=>BA a k l h) xs l h
theorem aL1(k:Int){xs:List ByteArray}(l:List Bd)(h:x∈xs):mG x (dT k xs l):=wZ (fun l a h=>BA a k l h) (fun l=>aEy x k l) xs l h
theorem BD(t:T)(l:List Bd)(h:mG x l):mG x (eM t l):=BQ (fun l a h=>SO _ _ l h) t.kids l h
theorem VR{t k:T}(l:List Bd)(hk:k∈t.kids)(h:x∈bB (cQ k 0)):mG x (eM t l):=wZ (g:=fun l d=>dT t.n (bB (cQ d 0)) l) (fun l a h=>SO _ _ l h) (a:=k) (fun l=>aL1 _ l h) t.kids l hk
theorem xS(ks:List T)(b:Bool)(l:List Bd)(h:mG x l):mG x (bF ks b l):=BQ (fun l a h=>by
 split
 ·exact BD _ l h
 split
 ·exact BA _ _ l h
 ·exact h) ks l h
theorem uB{ks:List T}{v k:T}(b:Bool)(l:List Bd)(hv:v∈ks)(h2:v.op=2)(hn:v.n≠0)(hk:k∈v.kids)(h:x∈bB (cQ k 0)):mG x (bF ks b l):=wZ (fun l a h=>by
 split
 ·exact BD _ l h
 split
 ·exact BA _ _ l h
 ·exact h) (a:=v) (fun l=>by rw[if_pos ⟨h2,hn⟩];exact VR l hk h) ks l hv
theorem DR:∀(f:Nat) (t:T) (l:List Bd),mG x l→mG x (dR f t l)
 |0,_,_,h=>h
 | f+1,t,l,h=>by
   unfold dR;split
   ·exact h
   ·refine BQ (fun l k h=>DR f k l h) _ _ ?_;split
    ·exact BD _ l h
    ·exact h
theorem aBf{f:Nat}{t v k:T}(h6:(cQ t 1).op=6)(hb:jG t 128=false)(hv:v∈(cQ t 1).kids)(h2:v.op=2)(hn:v.n≠0)(hk:k∈v.kids)(h:x∈bB (cQ k 0)):mG x (dM f t):=by
 unfold dM;dsimp only;rw[if_neg (by rw[hb];rintro(h|h);exact h h6;cases h)];exact wZ (g:=fun l k=>dR f k (bF [k] true l)) (fun l k h=>DR f k _ (xS _ _ l h)) (a:=v) (fun l=>DR f v _ (uB true l (aJ.2 rfl) h2 hn hk h)) _ _ hv
theorem aFc{E:List Fl}{m top:Nat}{sh:Bool}(l:List Bd)(i:Nat)(h:mG x l):mG x (gK E m top sh l i):=by
 have h0:mG x (if(aH E i).fn=m then wP (aH E i).t l else l):=by
  split
  ·unfold wP;split
   ·exact BD _ l h
   ·exact h
  ·exact h
 unfold gK;dsimp only;split
 ·exact xS _ _ _ h0
 ·exact h0
theorem aO7{E:List Fl}{a i:Nat}{k:T}(h1:a<i)(h2:i≤(aH E a).last)(hf:(aH E i).fn=(aH E a).num)(o2:(aH E i).t.op=2)(hn:(aH E i).t.n=0)(hk:k∈(aH E i).t.kids)(h:x∈bB (cQ k 0)):mG x (JV E a):=by
 unfold JV;refine QR (fun l i h=>aFc l i h) (j:=i) (fun l=>?_) _ _ _ (by omega) (by omega);have h0:mG x (wP (aH E i).t l):=by unfold wP;rw[if_pos ⟨o2,hn⟩];exact VR l hk h
 unfold gK;rw[if_pos hf];dsimp only;split
 ·exact xS _ _ _ h0
 ·exact h0
end
theorem DY{f g:T→Int→Nat→Nat→Nat→Nat→List Fl}:∀(ks:List T) (pa:Int) (j fn i c:Nat),(∀k∈ks,∀pa j fn i c,f k pa j fn i c=g k pa j fn i c)→fE f ks pa j fn i c=fE g ks pa j fn i c
 |[],_,_,_,_,_,_=>rfl
 | k::r,pa,j,fn,i,c,h=>by rw[fE,fE,h k (aE ..),DY r _ _ _ _ _ fun k hk=>h k (bP hk)]
theorem EA:∀(n:Nat) (t:T) (up:Int) (kid fn i c:Nat),t.size≤n→gE (n+1) t up kid fn i c=gE n t up kid fn i c
 |0,t,_,_,_,_,_,h=>by have:=aS t;omega
 | n+1,t,up,kid,fn,i,c,h=>by rw[gE,gE,DY t.kids _ _ _ _ _ fun k hk _ _ _ _ _=>EA n k _ _ _ _ _ (eN h hk)]
theorem AtG.up{E:List Fl}{n:Nat}{t:T}{up:Int}{kid fn i c:Nat}(h:AtG E n t up kid fn i c)(hs:t.size≤n):AtG E (n+1) t up kid fn i c:=by
 unfold AtG;rw[EA n t _ _ _ _ _ hs];exact h
theorem qF.ups{E:List Fl}{n:Nat}{ks:List T}{pa:Int}{j fn i c:Nat}(h:qF E n ks pa j fn i c)(hs:∀k∈ks,k.size≤n):qF E (n+1) ks pa j fn i c:=by
 unfold qF;rw[DY (f:=gE (n+1)) ks _ _ _ _ _ fun k hk _ _ _ _ _=>EA n k _ _ _ _ _ (hs k hk)];exact h
theorem AtG.rA{E:List Fl}{n:Nat}{k:T}{up:Int}{kid fn i c:Nat}(h:AtG E n k up kid fn i c)(hs:k.size≤n):aH E i=⟨k,up,kid,fn,if k.op=4 then c+1 else 0,i+k.size-1⟩∧i<E.length:=by
 have h1:=h.lt hs;have h2:=aS k;obtain⟨m,rfl⟩:∃m,n=m+1:=⟨n-1,by omega⟩;exact⟨h.eat,by omega⟩
theorem AtG.sub{E:List Fl}{n:Nat}{k:T}{up:Int}{kid fn i c:Nat}(h:AtG E n k up kid fn i c)(hs:k.size≤n)(h4:k.op≠4):qF E n k.kids (i:Int) 0 fn (i+1) c:=by
 have h2:=aS k;obtain⟨m,rfl⟩:∃m,n=m+1:=⟨n-1,by omega⟩;have h3:=h.kids;unfold rQ kH at h3;rw[if_neg h4,if_neg h4]at h3;exact h3.ups fun x a=>eN hs a
section
variable{E:List Fl}{R:RS}
theorem GN{a b:Nat}(h:a≤b):jZ (E.take a)≤jZ (E.take b):=by
 obtain⟨d,rfl⟩:=Nat.exists_eq_add_of_le h;rw[List.take_add,qB];omega
theorem aEs{p:Nat}(a:p<E.length)(h4:(aH E p).t.op=4):jZ (E.take (p+1))=jZ (E.take p)+1:=by
 obtain⟨e,he⟩:∃e,E[p]? =some e:=⟨_,aA a⟩;rw[KS he]at h4;rw[cG,he,qB];unfold jZ;simp[h4]
theorem aUq(hw:Fw E R):∀(x:Nat),x<E.length→(aH E x).fn≤jZ (E.take x):=by
 intro x;induction x using Nat.strongRecOn with
 | ind x ih=>
   intro a;obtain⟨h1,h2,h3⟩:=hw.lk' a;by_cases h0:x=0
   ·subst h0;rw[h3 (by rw[hw.root.2];decide)];omega
   have hu:=(hw.ups x (by omega) a).1;obtain⟨h4,h5⟩:=h2 hu;have b:(aH E x).up.toNat<x:=by omega
   rw[h5];split
   ·rename_i o4;rw[(hw.lk' (x:=(aH E x).up.toNat) (by omega)).1,if_pos o4,←aEs (by omega) o4];exact GN (by omega)
   ·exact dU (ih _ b (by omega)) (GN (by omega))
theorem aSd(hw:Fw E R){o i:Nat}(ho:o<i)(hi:i<E.length)(h4:(aH E i).t.op=4):fnO E o< ((aH E i).num:Int):=by
 rw[(hw.lk' hi).1,if_pos h4];unfold fnO;split
 ·rename_i o4;rw[(hw.lk' (x:=o) (by omega)).1,if_pos o4,←aEs (by omega) o4];have:=GN (E:=E) (a:=o+1) (b:=i) (by omega);omega
 ·have h1:=aUq hw o (by omega);have:=GN (E:=E) (a:=o) (b:=i) (by omega);omega
theorem Anc.lt(hw:Fw E R){g x:Nat}(h:Anc E g x)(a:x<E.length):g<x∧(aH E x).last≤(aH E g).last∧x≤(aH E x).last:=by
 induction h with
 | @par x hu=>
   have h0:0<x:=by
    rcases Nat.eq_zero_or_pos x with rfl|h
    ·rw[hw.root.2]at hu;omega
    ·exact h
   obtain⟨p,b,hlt,-⟩:=hw.par h0 a;have hn:=hw.nest x h0 a;rw[hu,aG]at hn;exact⟨by omega,hn.1,hn.2⟩
 | @up x p hu _ ih=>
   have h0:0<x:=by
    rcases Nat.eq_zero_or_pos x with rfl|h
    ·rw[hw.root.2]at hu;omega
    ·exact h
   obtain⟨p',b,hlt,-⟩:=hw.par h0 a;obtain rfl:p=p' :=by omega
   have hn:=hw.nest x h0 a;rw[hu,aG]at hn;have:=ih (by omega);exact⟨by omega,by omega,hn.2⟩
theorem vW(hw:Fw E R){x i:Nat}(b:x<E.length)(hu:(aH E x).up=(i:Int))(hi:i<E.length)(a:∀m,¬kI E R i m):inN R x=inN R i:=by
 rw[hw.tQ b hu,if_pos];rcases hw.opens hi with h|⟨m,-,h,-⟩
 ·exact .inl (by omega)
 ·exact absurd h (a m)
theorem KI(hw:Fw E R){x i:Nat}(b:x<E.length)(hu:(aH E x).up=(i:Int))(a:(aH E i).t.op=21→(aH E x).kid≠0){m:Nat}(ho:kI E R i m):inN R x=(m:Int):=by
 rw[hw.tQ b hu,if_neg (by rw[ho.op];rintro(h|h);omega;exact a h.1 h.2),ho.op]
theorem FM(hw:Fw E R){x i:Nat}{l:List Bd}{kind:Int}(hi:i<E.length)(e:x<E.length)(hu:(aH E x).up=(i:Int))(c:(aH E i).t.op=21→(aH E x).kid≠0)(a:nmE E i=kT l kind)(hk:0≤kind){y:ByteArray}(b:mG y l):∃m,kI E R i m∧inN R x=(m:Int)∧mG y (nmE E i).1:=by
 have hl:l.length≠0:=fun h=>by rw[bV h]at b;unfold mG at b;simp at b
 unfold kT at a;rw[if_neg hl]at a;obtain⟨m,hm⟩:=hw.arr.yes i hi (by rw[a];dsimp only;omega);exact⟨m,hm,KI hw e hu c hm,by rw[a];exact b⟩
theorem aMy(hw:Fw E R){d i o o' m m' b:Nat}{y:ByteArray}(hr:Res E R d y o m b)(hin:inN R d=inN R i)(a:kI E R o' m')(hi:inN R i=(m' :Int))(c:mG y (nmE E o').1):o=o' :=by
 obtain⟨-,h2,h3,-⟩:=hr;rw[hin,hi]at h2;unfold iD at h2;rw[mY ⟨by omega,by have:=(List.getElem?_eq_some_iff.1 a.2.2).1;omega⟩ (by rw[aG];exact a.2.2)]at h2;obtain⟨j,e⟩:=HN 0 c;dsimp only at h2;rw[e]at h2;dsimp only at h2;rw[aG]at h2;injection h2 with h2
 injection h2 with h4 h5
 subst h4;exact hw.inj h3 a
theorem Inv.decl{i:Nat}{D:List (Nat×ByteArray)}{ρ:Nat→Int}{s:ES}(h:Inv E R i D ρ s)(a:Int)(y:ByteArray)(d:ED):Inv E R i D ρ (rV a y d s):=⟨h.lt,fun p e o m b hr=>by
 obtain⟨δ,h1,h2⟩:=h.rc p e o m b hr;refine⟨δ,?_,h2⟩;unfold rV;dsimp only;rw[uU,gN];split
 ·rename_i c;rw[c]at h1;exact cC _ h1
 ·exact h1,h.pw⟩
def at1(ρ:Nat→Int)(i:Nat)(r:Int):Nat→Int:=fun o=>if o=i then r else ρ o
theorem tT{ρ:Nat→Int}{i:Nat}{r:Int}{o:Nat}(h:o<i):at1 ρ i r o=ρ o:=if_neg (by omega)
theorem vH{ρ:Nat→Int}{i:Nat}{r:Int}:at1 ρ i r i=r:=if_pos rfl
theorem wQ(hw:Fw E R){i j:Nat}{D:List (Nat×ByteArray)}{ρ ρ0:Nat→Int}{s0 s s' :ES}(h3:(aH E i).t.op≠3)(e:∀o,o<i→ρ0 o=ρ o)(hI:Inv E R i D ρ s0)(hn:s.names=s0.names)(h:Inv E R (i+1) D ρ0 s→Ok E R (i+1) j D ρ0 s'):Ok E R i j D ρ s' :=by
 refine Ok.rho hw (h ((((hI.rho hw e).names hn).le (Nat.le_succ i)))) (Nat.le_succ i) e fun d h1 h2=>?_;obtain rfl:d=i:=by omega
 exact h3
theorem mO(hw:Fw E R){n i fn jj x c:Nat}{k:T}{p q:EP}{ρ ρ0 ρ' :Nat→Int}(hP:Place E R i p ρ)(h4:(aH E i).t.op≠4)(hA:AtG E n k (i:Int) jj fn x c)(hk:k.size≤n)(a:i<x)(e:∀o,o≤i→ρ' o=ρ0 o)(e0:∀o,o<i→ρ0 o=ρ o)(hr:∀m,kI E R i m→ρ0 i∈q.regs)(hs:∀r,r∈p.regs→r∈q.regs):Place E R x q ρ' :=by
 obtain⟨h1,h2⟩:=hA.rA hk;exact hP.kid hw h2 (by rw[h1]) a h4 (fun o ho=>by rw[e o (by omega),e0 o ho]) (fun m hm=>by rw[e i (aC _)];exact hr m hm) hs
theorem aJv(hw:Fw E R){n i fn jj x c:Nat}{k:T}{p q:EP}{ρ ρ' :Nat→Int}(hP:Place E R i p ρ)(h4:(aH E i).t.op≠4)(hA:AtG E n k (i:Int) jj fn x c)(hk:k.size≤n)(b:i<x)(hin:inN R x=inN R i)(e:∀o,o<i→ρ' o=ρ o)(hs:∀r,r∈p.regs→r∈q.regs):Place E R x q ρ' :=fun o m ho hc hf=>by
 obtain⟨h1,h2⟩:=hA.rA hk;have a:(aH E x).fn=(aH E i).fn:=by obtain⟨-,h3,-⟩:=hw.lk' h2;obtain⟨-,h5⟩:=h3 (by rw[h1];dsimp only;omega);rw[show(aH E x).up=(i:Int)by rw[h1],aG,if_neg h4]at h5;exact h5
 rw[hin]at hc;rw[e o (hw.ZW ho (by omega) hc)];exact hs _ (hP o m ho hc (by rw[hf,a]))
theorem HU(hw:Fw E R){n i fn jj x c:Nat}{k:T}{q:EP}{ρ' :Nat→Int}(h4:(aH E i).t.op=4)(hA:AtG E n k (i:Int) jj fn x c)(hk:k.size≤n)(a:i<x)(hr:ρ' i∈q.regs):Place E R x q ρ' :=fun o m ho hc hf=>by
 obtain⟨h1,h2⟩:=hA.rA hk;rcases hw.chain ho h2 (by rw[h1]) a hc with⟨rfl,-⟩|h3
 ·exact hr
 ·exfalso;have h5:=hw.ZW ho (by omega) h3;have h6:=aSd hw h5 (by omega) h4;obtain⟨-,e,-⟩:=hw.lk' h2;obtain⟨-,b⟩:=e (by rw[h1];dsimp only;omega);rw[show(aH E x).up=(i:Int)by rw[h1],aG,if_pos h4]at b;omega
variable{N:T→EP→ES→ES}{n:Nat}
theorem tW(ihN:∀k,k.size≤n→dJ Vk k→NJ E R n N k){g:ES→T→ES}(hg:∀s k,s.e≠0→(g s k).e≠0){i fn:Nat}{ρ0:Nat→Int}(ks:List T){j x0 c:Nat}{s:ES}{D:List (Nat×ByteArray)}(hk:∀k∈ks,k.size≤n∧dJ Vk k∧(k.op≠1∧k.op≠3)∧(k.op=6→(aH E i).t.op≠4))(hA:qF E n ks (i:Int) j fn x0 c)(l:i<x0)(hI:Inv E R x0 D ρ0 s)
 (r:∀k∈ks,∀s,(g s k).e=0→∃q s',g s k=N k q s' ∧s'.names=s.names∧∀jj x c ρ',j≤jj→AtG E n k (i:Int) jj fn x c→i<x→(∀o,o≤i→ρ' o=ρ0 o)→Place E R x q ρ' ∧yO E R x q ρ' k)
 (he:(ks.foldl g s).e=0):Ok E R x0 (x0+szs ks) D ρ0 (ks.foldl g s):=
 KQ hg ks j x0 c s D ρ0 (fun k h=>(hk k h).1) hA l hI (fun _ _=>rfl) (fun k h jj x c s D ρ p a hx1 f b e1=>by
  obtain⟨q,s',h1,h2,h3⟩:=r k h s e1;obtain⟨h4,h5⟩:=h3 jj x c ρ p a hx1 b;rw[h1]at e1⊢;exact ihN k (hk k h).1 (hk k h).2.1 i jj fn x c q s' D ρ a hx1 (f.names h2) h4 h5 (hk k h).2.2.1 (hk k h).2.2.2 e1) he
end
end
section
open Go.RowKit Go.Vcg
structure Cx (E:List Fl) (R:RS) (N:T→EP→ES→ES) (B:T→EP→ED→ES→ES) (n:Nat):Prop where
 hw:Fw E R
 ihN:∀k,k.size≤n→dJ Vk k→NJ E R n N k
 ihB:∀k,k.size≤n→dJ Vk k→BJ E R n B k
 hpN:∀k p s,s.e≠0→(N k p s).e≠0
 hpB:∀k p d s,s.e≠0→(B k p d s).e≠0
structure Nx (E:List Fl) (R:RS) (n:Nat) (t:T) (up kid fn i c:Nat) (p:EP) (s:ES) (D:List (Nat×ByteArray)) (ρ:Nat→Int):Prop where
 hs:t.size≤n+1
 hq:dJ Vk t
 hA:AtG E (n+1) t (up:Int) kid fn i c
 hup:up<i
 hI:Inv E R i D ρ s
 hP:Place E R i p ρ
 hL:yO E R i p ρ t
section
variable{E:List Fl}{R:RS}{wd:ByteArray→Int}{N:T→EP→ES→ES}{B:T→EP→ED→ES→ES}{n:Nat}{t:T}{up kid fn i c:Nat}{p:EP}{s:ES}{D:List (Nat×ByteArray)}{ρ:Nat→Int}
theorem Nx.het(X:Nx E R n t up kid fn i c p s D ρ):(aH E i).t=t:=by rw[X.hA.eat]
theorem Nx.len(X:Nx E R n t up kid fn i c p s D ρ):i+t.size≤E.length:=X.hA.lt X.hs
theorem Nx.ln(X:Nx E R n t up kid fn i c p s D ρ):i<E.length:=by
 have:=X.len;have:=aS t;omega
theorem Nx.ks(X:Nx E R n t up kid fn i c p s D ρ)(h4:t.op≠4):qF E n t.kids (i:Int) 0 fn (i+1) c:=by
 have h:=X.hA.kids;unfold rQ kH at h;rw[if_neg h4,if_neg h4]at h;exact h
theorem Nx.kl(X:Nx E R n t up kid fn i c p s D ρ){k:T}(hk:k∈t.kids):k.size≤n:=eN X.hs hk
theorem Nx.kq(X:Nx E R n t up kid fn i c p s D ρ){k:T}(hk:k∈t.kids):dJ Vk k:=X.hq.kid hk
theorem Nx.no(X:Nx E R n t up kid fn i c p s D ρ)(hw:Fw E R)(h:¬(t.op=1∨t.op=4∨t.op=6∨t.op=21∨t.op=10∨t.op=11∨t.op=12∨t.op=20)):∀m,¬kI E R i m:=fun m=>sS hw X.ln (IS (by rw[X.het];exact h))
theorem uT{k a:T}(hk:k.size≤n)(b:a∈k.kids):a.size≤n:=by
 have h1:=aS k;have h2:a.size≤szs k.kids:=T.eL (List.mem_map.2 ⟨a,b,rfl⟩);omega
theorem KH{p q:EP}(h:q.regs=p.regs):mB q=mB p:=by unfold mB;rw[h]
theorem BR(p:EP)(s:ES):mB (iE p s)=[((s.regs+1:Nat):Int)]:=by
 unfold mB iE;dsimp only;rw[aI,cN,Nat.add_sub_cancel,List.drop_left]
theorem yY(p:EP)(s:ES):((s.regs+1:Nat):Int)∈(iE p s).regs:=dG _ (aJ.2 rfl)
theorem EQ{p q:EP}(h:q.regs=p.regs)(s:ES):∀r,r∈p.regs→r∈(iE q s).regs:=fun r hr=>cC _ (by rw[h];exact hr)
theorem aIw(C:Cx E R N B n)(X:Nx E R n t up kid fn i c p s D ρ)(h4:t.op≠4)(h3:t.op≠3)(b:∀m,¬kI E R i m)(j:∀k∈t.kids,k.op≠1∧k.op≠3)(a:(∀k∈t.kids,Qd k.op)∨(t.op=22∧∀k∈t.kids,k.op≠22)){q:EP}{s' :ES}(hr:q.regs=p.regs)(hn:s'.names=s.names)(he:(nC N t.kids q s').e=0):Ok E R i (i+t.size) D ρ (nC N t.kids q s'):=by
 have het:=X.het;refine wQ C.hw (ρ0:=ρ) (by rw[het];exact h3) (fun _ _=>rfl) X.hI hn fun hI=>?_;rw[aS t,←cW];refine tW C.ihN (fun s k h=>C.hpN k q s h) (ρ0:=ρ) t.kids (fun k hk=>⟨X.kl hk,X.kq hk,j k hk,fun _=>by rw[het];exact h4⟩) (X.ks h4) (by omega) hI (fun k hk s _=>⟨q,s,rfl,rfl,fun jj x c ρ' _ hA w e=>?_⟩) he;obtain⟨hx1,f⟩:=hA.rA (X.kl hk);refine⟨mO C.hw X.hP (by rw[het];exact h4) hA (X.kl hk) w e (fun _ _=>rfl) (fun m hm=>absurd hm (b m)) (fun r h=>by rw[hr];exact h),?_⟩;rcases a with a|⟨o22,a⟩
 ·exact yO.no (a k hk)
 ·intro v hv h2 g k' l y u;rcases hv with rfl|⟨h5,-⟩
  ·obtain⟨o,m,a1,a2,a3,a4⟩:=X.hL v (.inr ⟨o22,hk⟩) h2 g k' l y u;have ho:o<i:=C.hw.ZW a1 X.ln (by rw[a2];exact kN.here);refine⟨o,m,a1,by rw[vW C.hw f (by rw[hx1]) X.ln b];exact a2,a3,?_⟩;rw[KH hr,e o (by omega)];exact a4
  ·exact absurd h5 (a k hk)
theorem aL8(C:Cx E R N B n)(X:Nx E R n t up kid fn i c p s D ρ)(o2:t.op=2){q:EP}(hr:q.regs=p.regs){each:Bool}(he:(EU N B t q each s).e=0):Ok E R i (i+t.size) D ρ (EU N B t q each s):=by
 have het:=X.het;have ak:=X.no C.hw (by omega);have hV:=X.hq.here.vj;unfold EU at he⊢;generalize hd:(if t.n≠0 then(⟨true,mB q,0,false⟩:ED)else⟨false,q.regs,0,false⟩)=d at he⊢;refine wQ C.hw (ρ0:=ρ) (by rw[het];omega) (fun _ _=>rfl) X.hI rfl fun hI=>?_;rw[aS t,←cW];refine KQ (ρ0:=ρ) (fun s k h=>pV (fun s k h=>C.hpN k q s h) _ _ (C.hpB _ _ _ _ (AZ h))) t.kids 0 (i+1) c s D ρ (fun k hk=>X.kl hk) (X.ks (by omega)) (by omega) hI (fun _ _=>rfl) ?_ he;intro k hk jj x c' s' D' ρ1 _ hA hx bb ad e1;have k3:=hV.vs o2 k hk;have j:=X.kl hk;have af:=X.kq hk;obtain⟨a,r,l,a8,ai⟩:=af.here.vj.dc k3;have ea:cJ k 0=a:=by unfold cJ;rw[l];rfl
 have es:cQ k 0=a:=ea;have er:k.kids.drop 1=r:=by rw[l];rfl
 have ao:a∈k.kids:=by rw[l];exact aE ..
 have ae:∀z∈r,z∈k.kids:=fun z w=>by rw[l];exact bP w
 rw[ea,er]at e1⊢;obtain⟨hx1,u⟩:=hA.rA j;have hsub:=hA.sub j (by omega);rw[l]at hsub;have ah:=uT j ao;have ar:=hsub.hd;have bd:=hsub.tl ah;obtain⟨s1,av,ax⟩:∃s1,iX (decide (k.kids.length=1)&& !each&&(decide (t.n=2)||decide (a.op≠34))) k.at' 36 s' =s1∧s1.names=s'.names:=⟨_,rfl,gN _ _ _ _⟩;rw[av]at e1⊢;have e2:(B a q d s1).e=0:=Decidable.byContradiction fun h=>pV (fun s k h=>C.hpN k q s h) _ _ h e1;have ab:inN R x=inN R i:=vW C.hw u (by rw[hx1]) X.ln ak;have ap:Place E R x q ρ1:=mO C.hw X.hP (by rw[het];omega) hA j hx ad (fun _ _=>rfl) (fun m hm=>absurd hm (ak m)) (fun r h=>by rw[hr];exact h);have v:(aH E x).t.op=3:=by rw[hx1];exact k3
 have aa:∀m,¬kI E R x m:=fun m=>sS C.hw u (IS (by rw[v];omega));have aq:Place E R (x+1) q ρ1:=mO C.hw ap (by rw[v];omega) ar ah (by omega) (fun _ _=>rfl) (fun _ _=>rfl) (fun m hm=>absurd hm (aa m)) (fun r h=>h);have az:DI E R (x+1) d ρ1 (some x) (bB a):=by
  intro d0 h0;obtain rfl:x=d0:=by injection h0
  refine⟨by omega,fun y hy o m b f=>⟨?_,?_⟩⟩
  ·unfold PK;rw[hx1];dsimp only;rw[aG,het,←hd];by_cases h0:t.n=0<;>simp[h0]
  ·by_cases h0:t.n=0
   ·rw [if_neg (by simp[h0])]at hd;rw[←hd];dsimp only;rw[hr];have hc:kN R.L m (inN R x):=tK f.2.1;rw[ab]at hc;have ho:=f.2.2.1;have aw:=C.hw.ZW ho X.ln hc;rw[ad o (by omega)];refine X.hP o m ho hc ?_;have al:(aH E x).fn=fn:=by rw[hx1]
    have an:(aH E i).fn=fn:=by rw[X.hA.eat]
    have ag:=C.hw.aOl x u _ _ _ f.2.1 fun g hg o4 aj=>by
     have bf:(aH E x).up=(i:Int):=by rw[hx1]
     cases hg with
     | par hu=>
       exfalso;obtain rfl:i=g:=by omega
       rw[het]at o4;omega
     | @up _ p' hu ay=>
       obtain rfl:i=p' :=by omega
       obtain⟨g1,g2,g3⟩:=ay.lt C.hw X.ln;exact aO7 g1 (by omega) (by rw[an,aj,al]) (by rw[het];exact o2) (by rw[het];exact h0) (by rw[het];exact hk) (by rw[es];exact hy)
    rw[ZG ho.2.2]at ag;dsimp only at ag;rw[ag,al,an]
   ·rw[if_pos h0]at hd;obtain⟨o',m',a1,a2,a3,a4⟩:=X.hL t (.inl rfl) o2 h0 k hk y (by rw[es];exact hy);obtain rfl:=aMy C.hw f ab a1 a2 a3;have aw:=C.hw.ZW a1 X.ln (by rw[a2];exact kN.here);rw[←hd];dsimp only;rw[KH hr,a4,ad o (by omega)];exact aJ.2 rfl
 have hB:=C.ihB a ah (af.kid ao) x 0 fn (x+1) c' q d s1 D' ρ1 (some x) ar (by omega) ((bb.names ax).le (by omega)) aq a8 az e2;have hO:Ok E R x (x+1+a.size) D' ρ1 (B a q d s1):=by
  obtain⟨D2,ρ',g1,g2,g3,g4⟩:=hB;refine⟨D2,ρ',g1,fun o ho=>g2 o (by omega),fun d' y h1 h2 h3=>?_⟩;by_cases a6:x+1≤d'
  ·exact g3 d' y a6 h2 h3
  ·obtain rfl:d' =x:=by omega
   refine g4 d' rfl y ?_;have h5:=h3.2;rw[hx1]at h5;dsimp only at h5;rw[es]at h5;exact h5
 rw[aS k,l,bK];refine hO.trans (by omega) fun D1 ρ2 ba a7=>?_;rw[show x+ (1+ (a.size+szs r))=x+1+a.size+szs r by omega];exact tW C.ihN (fun s k h=>C.hpN k q s h) (ρ0:=ρ2) r (fun z w=>⟨uT j (ae z w),af.kid (ae z w),(ai z w).m,fun _=>by rw[v];omega⟩) bd (by omega) ba (fun z w s _=>⟨q,s,rfl,rfl,fun jj y c ρ' _ bc au e=>⟨mO C.hw (ap.rho C.hw u a7) (by rw[v];omega) bc (uT j (ae z w)) au e (fun _ _=>rfl) (fun m hm=>absurd hm (aa m)) (fun r h=>h),yO.no (ai z w)⟩⟩) e1
def fnA(wd:ByteArray→Int)(t:T)(p:EP)(own:Bool)(s:ES):ES:=
 let s1:=if t.s≠⟨#[]⟩then nO wd t t.s { p with strict:=(inP t p).strict } s else s
 let s2:=iX (qG t&& !pD (cJ t 0)) t.at' 35 s1
 if pS t.n 1 then rV t.at' t.s ⟨!own,if own then p.regs else mB p,0,false⟩ s2 else s2
def fnB(N:T→EP→ES→ES)(B:T→EP→ED→ES→ES)(t:T)(i:EP)(s4:ES):ES:=
 let s5:=(cJ t 0).kids.foldl (fun s k=>B k { i with head:=true } ⟨false,i.regs,(s4.regs:Int),(i.strict||pS t.n 2||pS t.n 8|| !pD (cJ t 0))⟩ s) s4
 if(cJ t 1).op≠6 then N (cJ t 1) i s5 else nC N (cJ t 1).kids { i with own:=true } s5
theorem aSe(own:Bool):UO wd N B t p own s=fnB N B t (iE (inP t p) (fnA wd t p own s)) (eX (fnA wd t p own s)):=rfl
theorem aOj{q:EP}{own:Bool}(hI:Inv E R i D ρ s):Inv E R i D ρ (fnA wd t q own s):=by
 unfold fnA;dsimp only;have h1:(if t.s≠⟨#[]⟩then nO wd t t.s { q with strict:=(inP t q).strict } s else s).names=s.names:=by
  split
  ·exact sD ..
  ·rfl
 have h2:Inv E R i D ρ (iX (qG t&& !pD (cJ t 0)) t.at' 35 (if t.s≠⟨#[]⟩then nO wd t t.s { q with strict:=(inP t q).strict } s else s)):=hI.names (by rw[gN,h1]);split
 ·exact h2.decl ..
 ·exact h2
theorem aSb(C:Cx E R N B n)(X:Nx E R n t up kid fn i c p s D ρ)(o4:t.op=4){q:EP}{own:Bool}(he:(UO wd N B t q own s).e=0):Ok E R i (i+t.size) D ρ (UO wd N B t q own s):=by
 have het:=X.het;have ba:=X.hq.here.fn o4;obtain⟨⟨pr,bd,g⟩,ae,ar⟩:=X.hq.here.fn o4;have ah:=X.hq.here.fb o4;have k0:cJ t 0=pr:=by unfold cJ;rw[g];rfl
 have k1:cJ t 1=bd:=by unfold cJ;rw[g];rfl
 have s0:cQ t 0=pr:=k0;have s1:cQ t 1=bd:=k1;rw[s0]at ae;rw[s1]at ar ah;have af:pr∈t.kids:=by rw[g];exact aE ..
 have u:bd∈t.kids:=by rw[g];simp
 have b:=X.kl af;have f:=X.kl u;have z:nmE E i=(JV E i,1):=aDw (by rw[het];exact o4);obtain⟨m,hm⟩:∃m,kI E R i m:=C.hw.arr.yes i X.ln (by rw[z];dsimp only;omega);rw[aSe]at he⊢;have av:Inv E R i D ρ (fnA wd t q own s):=aOj X.hI;generalize fnA wd t q own s=s3 at he⊢av;have a:(iE (inP t q) s3).regs=[((s3.regs+1:Nat):Int)]:=rfl;generalize iE (inP t q) s3=i' at he⊢a;generalize ((s3.regs+1:Nat):Int)=r at a;have ao:(eX s3).names=s3.names:=rfl;generalize eX s3=s4 at he⊢ao;have ab:r∈i'.regs:=by rw[a];exact aJ.2 rfl
 unfold fnB at he⊢;dsimp only at he⊢;rw[k0,k1]at he⊢;generalize (⟨false,i'.regs,(s4.regs:Int),(i'.strict||pS t.n 2||pS t.n 8|| !pD pr)⟩:ED)=d at he⊢;have e5:(pr.kids.foldl (fun s k=>B k { i' with head:=true } d s) s4).e=0:=Decidable.byContradiction fun h=>by
  split at he
  ·exact C.hpN _ _ _ h he
  ·exact pV (fun s k h=>C.hpN k _ s h) _ _ h he
 refine wQ C.hw (ρ0:=at1 ρ i r) (by rw[het];omega) (fun o ho=>tT ho) av ao fun hI=>?_;have l:=X.hA.kids;unfold rQ kH at l;rw[if_pos o4,if_pos o4,g]at l;have al:=l.hd;have j:=(l.tl b).hd;have hsub:=al.sub b (by omega);obtain⟨a6,a1⟩:=al.rA b;have ag:(aH E (i+1)).t.op=5:=by rw[a6];exact ae
 have bc:=(X.kq af).here.vj.pa (.inl ae);have hO:Ok E R (i+1) (i+1+pr.size) D (at1 ρ i r) (pr.kids.foldl (fun s k=>B k { i' with head:=true } d s) s4):=by refine wQ C.hw (i:=i+1) (ρ0:=at1 ρ i r) (by rw[ag];omega) (fun _ _=>rfl) hI rfl fun hI=>?_;rw[aS pr,←cW];refine KQ (ρ0:=at1 ρ i r) (fun s k h=>C.hpB k _ d s h) pr.kids 0 (i+1+1) _ s4 D _ (fun k hk=>uT b hk) hsub (by omega) hI (fun _ _=>rfl) ?_ e5;intro k hk jj x c s D ρ1 _ aw hx w ax e1;exact(C.ihB k (uT b hk) ((X.kq af).kid hk) (i+1) jj _ x c { i' with head:=true } d s D ρ1 none aw (by omega) w (mO C.hw (HU C.hw (q:=i') (ρ' :=at1 ρ i r) (by rw[het];exact o4) al b (by omega) (by rw[vH];exact ab)) (by rw[ag];omega) aw (uT b hk) hx ax (fun _ _=>rfl) (fun m hm=>absurd hm (sS C.hw a1 (IS (by rw[ag];omega)))) (fun r h=>h)) (bc k hk) (fun d0 h0=>by cases h0) e1).ok
 have az:=aS t;rw[g,bK,bK,show szs []=0 from rfl]at az;rw[show i+t.size=i+1+pr.size+bd.size by omega];refine hO.trans (by omega) fun D1 ρ1 w bb=>?_;have ad:ρ1 i=r:=by rw[bb i (by omega),vH]
 by_cases b6:bd.op≠6
 ·rw[if_pos b6]at he⊢;exact C.ihN bd f (X.kq u) i 1 _ (i+1+pr.size) _ i' _ D1 ρ1 j (by omega) w (HU C.hw (by rw[het];exact o4) j f (by omega) (by rw[ad];exact ab)) (yO.no (ah b6)) (ah b6).m (fun h=>absurd h b6) he
 ·rw[if_neg b6]at he⊢;have b6:bd.op=6:=Decidable.not_not.1 b6;have aq:jG t 128=false:=by
   rcases ar with h|h
   ·exact h.2
   ·exact absurd b6 h.1
  obtain⟨ak,aj⟩:=j.rA f;have ai:(aH E (i+1+pr.size)).t.op=6:=by rw[ak];exact b6
  have an:nmE E (i+1+pr.size)=kT [] 2:=by unfold nmE;rw[ak];dsimp only;rw[if_neg (by omega),if_neg (by omega),if_pos b6,if_neg (by rw[aG,het];omega)]
  have aa:∀m,¬kI E R (i+1+pr.size) m:=fun m=>sS C.hw aj (by rw[an];decide);have au:=(X.kq u).here.vj.st (.inr (.inl b6));refine wQ C.hw (ρ0:=ρ1) (by rw[ai];omega) (fun _ _=>rfl) w rfl fun hI=>?_;rw[aS bd,←cW];refine tW C.ihN (fun s k h=>C.hpN k _ s h) (ρ0:=ρ1) bd.kids (fun k hk=>⟨uT f hk,(X.kq u).kid hk,(au k hk).m,fun _=>by rw[ai];omega⟩) (j.sub f (by omega)) (by omega) hI (fun k hk s _=>⟨_,s,rfl,rfl,fun jj x c ρ' _ hA hx e=>?_⟩) he;have ap:=uT f hk;obtain⟨hx1,ay⟩:=hA.rA ap;refine⟨mO C.hw (HU C.hw (q:=i') (ρ' :=ρ1) (by rw[het];exact o4) j f (by omega) (by rw[ad];exact ab)) (by rw[ai];omega) hA ap hx e (fun _ _=>rfl) (fun m hm=>absurd hm (aa m)) (fun r h=>h),?_⟩;intro v hv h2 a7 k' a8 y hy;rcases hv with rfl|⟨h5,-⟩
  ·refine⟨i,m,hm,?_,?_,?_⟩
   ·rw[vW C.hw ay (by rw[hx1]) aj aa];exact KI C.hw aj (by rw[ak]) (fun h=>by rw[het]at h;omega) hm
   ·rw[z];dsimp only;rw[KW X.hA X.hs o4 ba t.size (aC _)];exact aBf (by rw[s1];exact b6) aq (by rw[s1];exact hk) h2 a7 a8 hy
   ·unfold mB;dsimp only;rw[a,e i (by omega),ad];rfl
  ·exact absurd h5 (au k hk).2.2
theorem aLu(C:Cx E R N B n)(X:Nx E R n t up kid fn i c p s D ρ)(o6:t.op=6)(hu:(aH E up).t.op≠4){q:EP}(hr:q.regs=p.regs)(he:(nC N t.kids (iE q s) (eX s)).e=0):Ok E R i (i+t.size) D ρ (nC N t.kids (iE q s) (eX s)):=by
 have het:=X.het;have j:=X.hq.here.vj.st (.inr (.inl o6));have b:nmE E i=kT (bF t.kids true []) 2:=by unfold nmE;rw[X.hA.eat];dsimp only;rw[if_neg (by omega),if_neg (by omega),if_pos o6,if_pos ⟨by omega,by rw[aG];exact hu⟩]
 refine wQ C.hw (ρ0:=at1 ρ i ((s.regs+1:Nat):Int)) (by rw[het];omega) (fun o ho=>tT ho) X.hI (s:=eX s) rfl fun hI=>?_;rw[aS t,←cW];refine tW C.ihN (fun s k h=>C.hpN k _ s h) (ρ0:=at1 ρ i ((s.regs+1:Nat):Int)) t.kids (fun k hk=>⟨X.kl hk,X.kq hk,(j k hk).m,fun _=>by rw[het];omega⟩) (X.ks (by omega)) (by omega) hI (fun k hk s' _=>⟨iE q s,s',rfl,rfl,fun jj x c ρ' _ hA r e=>?_⟩) he;obtain⟨hx1,a⟩:=hA.rA (X.kl hk);refine⟨mO C.hw X.hP (by rw[het];omega) hA (X.kl hk) r e (fun o ho=>tT ho) (fun m hm=>by rw[vH];exact yY q s) (EQ hr s),?_⟩;intro v hv h2 f k' g y l;rcases hv with rfl|⟨h5,-⟩
 ·obtain⟨m,b1,b2,b3⟩:=FM C.hw X.ln a (by rw[hx1]) (fun h=>by rw[het]at h;omega) b (by omega) (uB true [] hk h2 f g l);exact⟨i,m,b1,b2,b3,by rw[BR,e i (aC _),vH]⟩
 ·exact absurd h5 (j k hk).2.2
theorem aLs(C:Cx E R N B n)(X:Nx E R n t up kid fn i c p s D ρ)(o20:t.op=20){q:EP}(hr:q.regs=p.regs){d:ED}(he:(nC N (cJ t 1).kids (iE q s) (B (cJ t 0) (iE q s) d (eX s))).e=0):Ok E R i (i+t.size) D ρ (nC N (cJ t 1).kids (iE q s) (B (cJ t 0) (iE q s) d (eX s))):=by
 have het:=X.het;obtain⟨a,b,f,ha,b6⟩:=X.hq.here.vj.ct o20;have k0:cJ t 0=a:=by unfold cJ;rw[f];rfl
 have k1:cJ t 1=b:=by unfold cJ;rw[f];rfl
 have ae:a∈t.kids:=by rw[f];exact aE ..
 have u:b∈t.kids:=by rw[f];simp
 have w:=X.kl ae;have g:=X.kl u;rw[k0,k1]at he⊢;have e2:(B a (iE q s) d (eX s)).e=0:=Decidable.byContradiction fun h=>pV (fun s k h=>C.hpN k _ s h) _ _ h he;refine wQ C.hw (ρ0:=at1 ρ i ((s.regs+1:Nat):Int)) (by rw[het];omega) (fun o ho=>tT ho) X.hI (s:=eX s) rfl fun hI=>?_;have j:=X.ks (by omega);rw[f]at j;have af:=j.hd;have z:=(j.tl w).hd;have ah:=aS t;rw[f,bK,bK,show szs []=0 from rfl]at ah;rw[show i+t.size=i+1+a.size+b.size by omega];have aa:∀{x k jj c ρ'},AtG E n k (i:Int) jj fn x c→k.size≤n→i<x→(∀o,o≤i→ρ' o=at1 ρ i ((s.regs+1:Nat):Int) o)→Place E R x (iE q s) ρ' :=fun hA hk hx e=>mO C.hw X.hP (by rw[het];omega) hA hk hx e (fun o ho=>tT ho) (fun m hm=>by rw[vH];exact yY q s) (EQ hr s);refine(C.ihB a w (X.kq ae) i 0 fn (i+1) _ _ d _ D _ none af (by omega) hI (aa af w (by omega) fun _ _=>rfl) ha (fun d0 h0=>by cases h0) e2).ok.trans (by omega) fun D1 ρ1 ao an=>?_;obtain⟨ad,al⟩:=z.rA g;have l:(aH E (i+1+a.size)).t.op=6:=by rw[ad];exact b6
 have hV:=(X.kq u).here.vj.st (.inr (.inl b6));have ai:nmE E (i+1+a.size)=kT (bF b.kids true []) 2:=by unfold nmE;rw[ad];dsimp only;rw[if_neg (by omega),if_neg (by omega),if_pos b6,if_pos ⟨by omega,by rw[aG,het];omega⟩]
 refine wQ C.hw (ρ0:=at1 ρ1 (i+1+a.size) ((s.regs+1:Nat):Int)) (by rw[l];omega) (fun o ho=>tT ho) ao rfl fun hI=>?_;rw[aS b,←cW];refine tW C.ihN (fun s k h=>C.hpN k _ s h) (ρ0:=at1 ρ1 (i+1+a.size) ((s.regs+1:Nat):Int)) b.kids (fun k hk=>⟨uT g hk,(X.kq u).kid hk,(hV k hk).m,fun _=>by rw[l];omega⟩) (z.sub g (by omega)) (by omega) hI (fun k hk s' _=>⟨iE q s,s',rfl,rfl,fun jj x c ρ' _ hA hx e=>?_⟩) he;have ab:=uT g hk;obtain⟨hx1,ag⟩:=hA.rA ab;refine⟨mO C.hw (aa z g (by omega) fun o ho=>an o (by omega)) (by rw[l];omega) hA ab hx e (fun o ho=>tT ho) (fun m hm=>by rw[vH];exact yY q s) (fun r h=>h),?_⟩;intro v hv h2 aj k' ak y hy;rcases hv with rfl|⟨h5,-⟩
 ·obtain⟨m,b1,b2,b3⟩:=FM C.hw al ag (by rw[hx1]) (fun h=>by omega) ai (by omega) (uB true [] hk h2 aj ak hy);exact⟨_,m,b1,b2,b3,by rw[BR,e _ (aC _),vH]⟩
 ·exact absurd h5 (hV k hk).2.2
end
end
section
open Go.RowKit Go.Vcg
theorem NV{f:T→Int→Nat→Nat→Nat→Nat→List Fl}:∀(xs ys:List T) (pa:Int) (j fn i c:Nat),fE f (xs++ys) pa j fn i c=fE f xs pa j fn i c++fE f ys pa (j+xs.length) fn (i+szs xs) (c+jZ (fE f xs pa j fn i c))
 |[],_,_,_,_,_,_=>rfl
 | k::r,ys,pa,j,fn,i,c=>by rw[aU,fE,fE,NV r ys,qB,bK,bH,bA,cW j,jR 1,cW i,cW c]
theorem qF.app{E:List Fl}{n:Nat}{xs ys:List T}{pa:Int}{j fn i c:Nat}(h:qF E n (xs++ys) pa j fn i c)(hk:∀k∈xs,k.size≤n):qF E n xs pa j fn i c∧∃c',qF E n ys pa (j+xs.length) fn (i+szs xs) c' :=by
 obtain⟨pre,post,rfl,rfl,rfl⟩:=h;rw[NV];refine⟨⟨pre,fE (gE n) ys pa (j+xs.length) fn (pre.length+szs xs) (jZ pre+jZ (fE (gE n) xs pa j fn pre.length (jZ pre)))++post,by simp only[bA],rfl,rfl⟩,jZ pre+jZ (fE (gE n) xs pa j fn pre.length (jZ pre)),pre++fE (gE n) xs pa j fn pre.length (jZ pre),post,by simp only[bA],?_,by rw[qB]⟩;rw[aI,uX xs _ _ _ _ _ fun k a _ _ _ _ _=>pH n k _ _ _ _ _ (hk k a)]
section
variable{E:List Fl}{R:RS}{wd:ByteArray→Int}{N:T→EP→ES→ES}{B:T→EP→ED→ES→ES}{n:Nat}{t:T}{up kid fn i c:Nat}{p:EP}{s:ES}{D:List (Nat×ByteArray)}{ρ:Nat→Int}
theorem ID(C:Cx E R N B n){k:T}(hq:dJ Vk k)(hk:k.op≠22){q:EP}{s:ES}(he:(lN N k q s).e=0):∃s',lN N k q s=N k q s' ∧s'.names=s.names∧∀x p ρ,yO E R x p ρ k:=by
 unfold lN at he⊢;refine⟨_,rfl,gN ..,fun x p ρ v hv h2 hn=>?_⟩;rcases hv with rfl|⟨h3,-⟩
 ·exfalso;have h1:=(VI (by decide) (Decidable.byContradiction fun h=>C.hpN _ _ _ h he)).1;have h3:=hq.here.n2 h2;rw[Bool.or_eq_false_iff]at h1;have h4:=h1.2;rw[decide_eq_true h2,bR,Bool.or_eq_false_iff]at h4;have h5:=of_decide_eq_false h4.1;have h6:=of_decide_eq_false h4.2;omega
 ·exact absurd h3 hk
theorem HG(C:Cx E R N B n){k:T}(hq:dJ Vk k)(hk:k.op≠22){q:EP}{mine:List ByteArray}{s:ES}(he:(sA N k q mine s).e=0):∃q' s',sA N k q mine s=N k q' s' ∧q'.regs=q.regs∧s'.names=s.names∧∀x p ρ,yO E R x p ρ k:=by
 unfold sA at he⊢;obtain⟨s',h1,h2,h3⟩:=ID C hq hk he;exact⟨_,s',h1,rfl,h2,h3⟩
theorem QJ(C:Cx E R N B n)(k:T)(q:EP)(mine:List ByteArray)(s:ES)(h:s.e≠0):(sA N k q mine s).e≠0:=C.hpN _ _ _ (AZ h)
theorem Nx.pl(X:Nx E R n t up kid fn i c p s D ρ)(C:Cx E R N B n)(h4:t.op≠4)(a:∀m,¬kI E R i m){x jj c:Nat}{k:T}{ρ' :Nat→Int}{q:EP}(hr:q.regs=p.regs)(hA:AtG E n k (i:Int) jj fn x c)(hk:k.size≤n)(b:i<x)(e:∀o,o≤i→ρ' o=ρ o):Place E R x q ρ' :=mO C.hw X.hP (by rw[X.het];exact h4) hA hk b e (fun _ _=>rfl) (fun m hm=>absurd hm (a m)) (fun r h=>by rw[hr];exact h)
theorem aUe(C:Cx E R N B n)(X:Nx E R n t up kid fn i c p s D ρ)(o9:t.op=9){q:EP}(hr:q.regs=p.regs)(he:((t.kids.drop 1).foldl (fun s k=>lN N k q s) (N (cJ t 0) q s)).e=0):Ok E R i (i+t.size) D ρ ((t.kids.drop 1).foldl (fun s k=>lN N k q s) (N (cJ t 0) q s)):=by
 have het:=X.het;have w:=X.no C.hw (by omega);obtain⟨a,r,b,ha,v⟩:=X.hq.here.vj.ifs o9;have k0:cJ t 0=a:=by unfold cJ;rw[b];rfl
 have j:a∈t.kids:=by rw[b];exact aE ..
 have g:∀z∈r,z∈t.kids:=fun z f=>by rw[b];exact bP f
 rw[k0,show t.kids.drop 1=r by rw[b];rfl]at he⊢;have l:∀s k,s.e≠0→(lN N k q s).e≠0:=fun s k h=>C.hpN _ _ _ (AZ h);have e1:(N a q s).e=0:=Decidable.byContradiction fun h=>pV l _ _ h he;refine wQ C.hw (ρ0:=ρ) (by rw[het];omega) (fun _ _=>rfl) X.hI rfl fun hI=>?_;have u:=X.ks (by omega);rw[b]at u;have y:=u.hd;rw[aS t,b,bK,show i+ (1+ (a.size+szs r))=i+1+a.size+szs r by omega];refine(C.ihN a (X.kl j) (X.kq j) i 0 fn (i+1) c q s D ρ y (by omega) hI (X.pl C (by omega) w hr y (X.kl j) (by omega) fun _ _=>rfl) (yO.no ha) ha.m (fun _=>by rw[het];omega) e1).trans (by omega) fun D1 ρ1 ab aa=>?_;refine tW C.ihN l (ρ0:=ρ1) r (fun z f=>⟨X.kl (g z f),X.kq (g z f),(v z f).m,fun _=>by rw[het];omega⟩) (u.tl (X.kl j)) (by omega) ab (fun z f s e=>?_) he;obtain⟨s',h1,h2,h3⟩:=ID C (X.kq (g z f)) (v z f).2.2 e;exact⟨q,s',h1,h2,fun jj x c ρ' _ hA hx e=>⟨X.pl C (by omega) w hr hA (X.kl (g z f)) hx fun o ho=>by rw[e o ho,aa o (by omega)],h3 _ _ _⟩⟩
theorem aJj(C:Cx E R N B n)(X:Nx E R n t up kid fn i c p s D ρ)(o23:t.op=23){q:EP}(hr:q.regs=p.regs){s1:ES}(hn:s1.names=s.names)(he:(lN N (cJ t 0) q s1).e=0):Ok E R i (i+t.size) D ρ (lN N (cJ t 0) q s1):=by
 have het:=X.het;have j:=X.no C.hw (by omega);obtain⟨a,h⟩:=X.hq.here.vj.lb o23;have k0:cJ t 0=a:=by unfold cJ;rw[h];rfl
 have b:a∈t.kids:=by rw[h];exact aE ..
 have hQ:=X.hq.here.vj.st (.inr (.inr (.inr o23))) a b;rw[k0]at he⊢;obtain⟨s',h1,h2,h3⟩:=ID C (X.kq b) hQ.2.2 he;rw[h1]at he⊢;refine wQ C.hw (ρ0:=ρ) (by rw[het];omega) (fun _ _=>rfl) X.hI (h2.trans hn) fun hI=>?_;have f:=X.ks (by omega);rw[h]at f;have g:=f.hd;rw[aS t,h,bK,show szs []=0 from rfl,show i+ (1+ (a.size+0))=i+1+a.size by omega];exact C.ihN a (X.kl b) (X.kq b) i 0 fn (i+1) c q s' D ρ g (by omega) hI (X.pl C (by omega) j hr g (X.kl b) (by omega) fun _ _=>rfl) (h3 _ _ _) hQ.m (fun _=>by rw[het];omega) he
theorem aH2(C:Cx E R N B n)(X:Nx E R n t up kid fn i c p s D ρ)(o:t.op=13∨t.op=14){a b:T}(h:t.kids=[a,b]){qa qb:EP}{sa s1 s2:ES}{g:ES→ES}(w:qa.regs=p.regs)(v:qb.regs=p.regs)(ab:sa.names=s.names)(h1:N a qa sa=s1)(h2:∃sb,s2=N b qb sb∧sb.names=s1.names)(e1:s1.e=0)(e2:s2.e=0)(z:a.op≠1∧a.op≠3)(y:b.op≠1∧b.op≠3)(ae:∀x p ρ,yO E R x p ρ a)(ad:∀x p ρ,yO E R x p ρ b):Ok E R i (i+t.size) D ρ s2:=by
 have het:=X.het;have q:=X.no C.hw (by omega);have f:a∈t.kids:=by rw[h];exact aE ..
 have l:b∈t.kids:=by rw[h];simp
 refine wQ C.hw (ρ0:=ρ) (by rw[het];omega) (fun _ _=>rfl) X.hI ab fun hI=>?_;have j:=X.ks (by omega);rw[h]at j;have u:=j.hd;have r:=(j.tl (X.kl f)).hd;rw[aS t,h,bK,bK,show szs []=0 from rfl,show i+ (1+ (a.size+ (b.size+0)))=i+1+a.size+b.size by omega];subst h1;refine(C.ihN a (X.kl f) (X.kq f) i 0 fn (i+1) c qa sa D ρ u (by omega) hI (X.pl C (by omega) q w u (X.kl f) (by omega) fun _ _=>rfl) (ae _ _ _) z (fun _=>by rw[het];omega) e1).trans (by omega) fun D1 ρ1 ag af=>?_;obtain⟨sb,rfl,aa⟩:=h2;exact C.ihN b (X.kl l) (X.kq l) i 1 fn (i+1+a.size) _ qb sb D1 ρ1 r (by omega) (ag.names aa) (X.pl C (by omega) q v r (X.kl l) (by omega) fun o ho=>af o (by omega)) (ad _ _ _) y (fun _=>by rw[het];omega) e2
theorem aKk(C:Cx E R N B n)(X:Nx E R n t up kid fn i c p s D ρ)(o:t.op=10∨t.op=11∨t.op=12){a d:T}{ms:List T}(g:t.kids=(a::ms)++[d])(ha:Qk a.op)(aa:∀k∈ms,Qd k.op)(hd:Qk d.op){q q' :EP}(hr:q.regs=p.regs)(l:q'.regs=(iE q s).regs){mine:List ByteArray}(he:(sA N d (iE q s) mine ((a::ms).foldl (fun s k=>N k q' s) (eX s))).e=0):Ok E R i (i+t.size) D ρ (sA N d (iE q s) mine ((a::ms).foldl (fun s k=>N k q' s) (eX s))):=by
 have het:=X.het;have f:∀z∈a::ms,z∈t.kids:=fun z b=>by rw[g];exact cC _ b
 have j:d∈t.kids:=by rw[g];simp
 have w:∀s k,s.e≠0→(N k q' s).e≠0:=fun s k h=>C.hpN _ _ _ h;have e1:((a::ms).foldl (fun s k=>N k q' s) (eX s)).e=0:=Decidable.byContradiction fun h=>QJ C _ _ _ _ h he;have ag:nmE E i=kT (bF [a] false []) 3:=by unfold nmE;rw[X.hA.eat];dsimp only;rw[if_neg (by omega),if_neg (by omega),if_neg (by omega),if_neg (by omega),if_pos o,show cQ t 0=a by unfold cQ;rw[g];rfl]
 refine wQ C.hw (ρ0:=at1 ρ i ((s.regs+1:Nat):Int)) (by rw[het];omega) (fun o ho=>tT ho) X.hI (s:=eX s) rfl fun hI=>?_;have ab:=X.ks (by omega);rw[g]at ab;obtain⟨al,c2,ad⟩:=ab.app fun k hk=>X.kl (f k hk);have af:t.size=1+szs (a::ms)+d.size:=by rw[aS t,g,BE,bK d,show szs []=0 from rfl];omega
 rw[af,show i+ (1+szs (a::ms)+d.size)=i+1+szs (a::ms)+d.size by omega];have u:∀{x k jj c ρ'} {z:EP},z.regs=(iE q s).regs→AtG E n k (i:Int) jj fn x c→k.size≤n→i<x→(∀o,o≤i→ρ' o=at1 ρ i ((s.regs+1:Nat):Int) o)→Place E R x z ρ' :=fun b hA hk hx e=>mO C.hw X.hP (by rw[het];omega) hA hk hx e (fun o ho=>tT ho) (fun m hm=>by rw[vH,b];exact yY q s) (fun r h=>by rw[b];exact EQ hr s r h);refine(tW C.ihN w (ρ0:=at1 ρ i ((s.regs+1:Nat):Int)) (a::ms) (fun z b=>⟨X.kl (f z b),X.kq (f z b),(by
  rcases aR.1 b with rfl|b
  ·exact ha.m
  ·exact(aa z b).m),fun _=>by rw[het];omega⟩) al (by omega) hI (fun z b s' _=>⟨q',s',rfl,rfl,fun jj x c ρ' _ hA hx e=>⟨u l hA (X.kl (f z b)) hx e,?_⟩⟩) e1).trans (by omega) fun D1 ρ1 ak aj=>?_
 ·rcases aR.1 b with rfl|b
  ·obtain⟨hx1,ae⟩:=hA.rA (X.kl (f z b));intro v hv h2 ah k' ai y hy;rcases hv with rfl|⟨h5,-⟩
   ·obtain⟨m,b1,b2,b3⟩:=FM C.hw X.ln ae (by rw[hx1]) (fun h=>by rw[het]at h;omega) ag (by omega) (uB false [] (aJ.2 rfl) h2 ah ai hy);exact⟨i,m,b1,b2,b3,by rw[KH l,BR,e i (aC _),vH]⟩
   ·exact absurd h5 ha.2.2
  ·exact yO.no (aa z b)
 ·obtain⟨qd,sd,g1,g2,g3,g4⟩:=HG C (X.kq j) hd.2.2 he;rw[g1]at he⊢;exact C.ihN d (X.kl j) (X.kq j) i _ fn _ _ qd sd D1 ρ1 ad.hd (by omega) (ak.names g3) (u g2 ad.hd (X.kl j) (by omega) fun o ho=>aj o (by omega)) (g4 _ _ _) hd.m (fun _=>by rw[het];omega) he
theorem aNe(C:Cx E R N B n)(X:Nx E R n t up kid fn i c p s D ρ)(o:t.op=10∨t.op=11∨t.op=12∨t.op=13∨t.op=14){q:EP}(hr:q.regs=p.regs){mine:List ByteArray}(he:(FJ N t q mine s).e=0):Ok E R i (i+t.size) D ρ (FJ N t q mine s):=by
 have l:=X.hq.here.vj;unfold FJ at he⊢;by_cases o13:t.op=13
 ·obtain⟨a,b,f,j,hb⟩:=l.wh o13;rw[if_pos o13,show cJ t 0=a by unfold cJ;rw[f];rfl,show cJ t 1=b by unfold cJ;rw[f];rfl]at he⊢;have r:b∈t.kids:=by rw[f];simp
  obtain⟨qb,sb,h1,h2,h3,h4⟩:=HG C (X.kq r) hb.2.2 he;exact aH2 C X (.inl o13) f (g:=id) hr (h2.trans hr) rfl rfl ⟨sb,h1,h3⟩ (Decidable.byContradiction fun h=>QJ C _ _ _ _ h he) he j.m hb.m (fun _ _ _=>yO.no j) h4
 rw[if_neg o13]at he⊢;by_cases o14:t.op=14
 ·obtain⟨a,b,f,j,hb⟩:=l.do_ o14;rw[if_pos o14,show cJ t 0=a by unfold cJ;rw[f];rfl,show cJ t 1=b by unfold cJ;rw[f];rfl]at he⊢;have u:a∈t.kids:=by rw[f];simp
  have e1:(sA N a q mine s).e=0:=Decidable.byContradiction fun h=>C.hpN _ _ _ h he;obtain⟨qa,sa,h1,h2,h3,h4⟩:=HG C (X.kq u) j.2.2 e1;exact aH2 C X (.inr o14) f (g:=id) (h2.trans hr) hr h3 h1.symm ⟨_,rfl,rfl⟩ e1 he j.m hb.m h4 (fun _ _ _=>yO.no hb)
 rw[if_neg o14]at he⊢;dsimp only at he⊢;by_cases o10:t.op=10
 ·obtain⟨a,b,c',d,f,j,hb,hc,hd⟩:=l.for4 o10;rw[show t.kids.take (t.kids.length-1)=[a,b,c']by rw[f];rfl,show cJ t (t.kids.length-1)=d by unfold cJ;rw[f];rfl]at he⊢;exact aKk C X (.inl o10) (ms:=[b,c']) f j (fun k hk=>by
   simp at hk;rcases hk with rfl|rfl
   ·exact hb
   ·exact hc) hd hr (q' :={ iE q s with each:=decide (t.op≠10) }) rfl he
 ·have o11:t.op=11∨t.op=12:=by omega
  obtain⟨a,b,d,f,j,hb,hd⟩:=l.for3 o11;rw[show t.kids.take (t.kids.length-1)=[a,b]by rw[f];rfl,show cJ t (t.kids.length-1)=d by unfold cJ;rw[f];rfl]at he⊢;exact aKk C X (.inr o11) (ms:=[b]) f j (fun k hk=>by
   simp at hk;rw[hk];exact hb) hd hr (q' :={ iE q s with each:=decide (t.op≠10) }) rfl he
theorem aE8(C:Cx E R N B n)(X:Nx E R n t up kid fn i c p s D ρ)(o21:t.op=21){q q' :EP}(hr:q.regs=p.regs)(f:q'.regs=(iE q (N (cJ t 0) q s)).regs)(he:(nC N (t.kids.drop 1) q' (eX (N (cJ t 0) q s))).e=0):Ok E R i (i+t.size) D ρ (nC N (t.kids.drop 1) q' (eX (N (cJ t 0) q s))):=by
 have het:=X.het;obtain⟨a,r,b,ha,ag⟩:=X.hq.here.vj.sw o21;have k0:cJ t 0=a:=by unfold cJ;rw[b];rfl
 have g:a∈t.kids:=by rw[b];exact aE ..
 have w:∀z∈r,z∈t.kids:=fun z j=>by rw[b];exact bP j
 have ai:t.kids.drop 1=r:=by rw[b];rfl
 have al:nmE E i=kT (r.foldl (fun l k=>bF k.kids true l) []) 2:=by unfold nmE;rw[X.hA.eat];dsimp only;rw[if_neg (by omega),if_neg (by omega),if_neg (by omega),if_pos o21,ai]
 rw[k0]at f;rw[k0,ai]at he⊢;have u:∀s k,s.e≠0→(N k q' s).e≠0:=fun s k h=>C.hpN _ _ _ h;have e1:(N a q s).e=0:=Decidable.byContradiction fun h=>pV u _ (eX (N a q s)) h he;generalize af:N a q s=s1 at he f e1⊢;refine wQ C.hw (ρ0:=at1 ρ i ((s1.regs+1:Nat):Int)) (by rw[het];omega) (fun o ho=>tT ho) X.hI rfl fun hI=>?_;have aa:=X.ks (by omega);rw[b]at aa;have ad:=aa.hd;obtain⟨aj,ap⟩:=ad.rA (X.kl g);have ah:inN R (i+1)=inN R i:=by rw[C.hw.tQ ap (by rw[aj])];exact if_pos (.inr ⟨by rw[het];exact o21,by rw[aj]⟩)
 rw[aS t,b,bK,show i+ (1+ (a.size+szs r))=i+1+a.size+szs r by omega];have h1:=C.ihN a (X.kl g) (X.kq g) i 0 fn (i+1) c q s D _ ad (by omega) hI (aJv C.hw X.hP (by rw[het];omega) ad (X.kl g) (by omega) ah (fun o ho=>tT ho) (fun r h=>by rw[hr];exact h)) (yO.no ha) ha.m (fun _=>by rw[het];omega) (by rw[af];exact e1);rw[af]at h1;refine h1.trans (by omega) fun D1 ρ1 aq ab=>?_;refine tW C.ihN u (ρ0:=ρ1) r (fun z j=>⟨X.kl (w z j),X.kq (w z j),(by have:=ag z j;omega),fun _=>by rw[het];omega⟩) (aa.tl (X.kl g)) (by omega) (aq.names (s' :=eX s1) rfl) (fun z j s' _=>⟨q',s',rfl,rfl,fun jj x c ρ' hj hA hx e=>?_⟩) he;have ae:=X.kl (w z j);obtain⟨hx1,ak⟩:=hA.rA ae;refine⟨mO C.hw X.hP (by rw[het];omega) hA ae hx e (fun o ho=>by rw[ab o (by omega),tT ho]) (fun m hm=>by rw[ab i (by omega),vH,f];exact yY q s1) (fun r h=>by rw[f];exact EQ hr s1 r h),?_⟩;intro v hv h2 an k' ao y hy;have ar:=ag z j;rcases hv with rfl|⟨-,hv⟩
 ·omega
 ·obtain⟨m,b1,b2,b3⟩:=FM (y:=y) C.hw X.ln ak (by rw[hx1]) (fun _=>by rw[hx1];dsimp only;omega) al (by omega) (wZ (fun l k h=>xS _ _ l h) (a:=z) (fun l=>uB true l hv h2 an ao hy) r [] j);exact⟨i,m,b1,b2,b3,by rw[KH f,BR,e i (aC _),ab i (by omega),vH]⟩
theorem aBx(t:T)(p:EP)(s:ES):(IX wd t p s).names=s.names:=by
 unfold IX;split
 ·exact gN ..
 ·rw[gN,gN,sD]
theorem aM3(t:T)(q:EP)(s:ES):(∃s',zL wd N t q s=nC N t.kids q s' ∧s'.names=s.names)∨(t.op=39∧t.n=3∧(zL wd N t q s).names=s.names):=by
 unfold zL;split
 ·exact .inl ⟨_,rfl,aBx ..⟩
 split
 ·exact .inl ⟨_,rfl,gN ..⟩
 split
 ·exact .inl ⟨_,rfl,sD ..⟩
 split
 ·rename_i h;exact .inr ⟨h.1,h.2,sD ..⟩
 split
 ·exact .inl ⟨_,rfl,gN ..⟩
 split
 ·exact .inl ⟨_,rfl,gN ..⟩
 ·exact .inl ⟨_,rfl,rfl⟩
theorem aM2(C:Cx E R N B n)(X:Nx E R n t up kid fn i c p s D ρ)(ho:t.op≠1∧t.op≠2∧t.op≠3∧t.op≠4∧t.op≠6∧¬(9≤t.op∧t.op≤14)∧t.op≠20∧t.op≠21∧t.op≠23){q:EP}(hr:q.regs=p.regs)(he:(zL wd N t q s).e=0):Ok E R i (i+t.size) D ρ (zL wd N t q s):=by
 have l:=X.hq.here.vj;obtain⟨h1,h2,h3,h4,h6,u,j,h,g⟩:=ho;rcases aM3 (wd:=wd) (N:=N) t q s with⟨s',hs,hn⟩|⟨o39,r,hn⟩
 ·rw[hs]at he⊢;refine aIw C X h4 h3 (X.no C.hw (by omega)) (fun k hk=>?_) ?_ hr hn he
  ·by_cases a:t.op=22
   ·exact(l.st (.inr (.inr (.inl a))) k hk).m
   ·exact(l.ot X.hq.here.pos h1 h2 h4 h6 u j h a g k hk).m
  ·by_cases a:t.op=22
   ·exact .inr ⟨a,fun k hk=>(l.st (.inr (.inr (.inl a))) k hk).2.2⟩
   ·exact .inl (l.ot X.hq.here.pos h1 h2 h4 h6 u j h a g)
 ·obtain⟨k,hk,k31,kk⟩:=X.hq.here.sht o39 r;have o:=aS t;have b:=aS k;rw[kk,show szs []=0 from rfl]at b;rw[hk,bK,show szs []=0 from rfl]at o;have f:=X.ks (by omega);rw[hk]at f;obtain⟨hx1,-⟩:=f.hd.rA (X.kl (by rw[hk];exact aE ..));refine Ok.skip (X.hI.names hn) (by omega) fun d d1 d2=>?_;by_cases hd:d=i
  ·rw[hd,X.het];omega
  ·obtain rfl:d=i+1:=by omega
   rw[hx1];dsimp only;omega
theorem aM9(C:Cx E R N B n)(hs:t.size≤n+1)(hq:dJ Vk t):NJ E R (n+1) (CQ wd N B) t:=by
 intro up kid fn i c p s D ρ hA hup hI hP hL hQ h6 he;have X:Nx E R n t up kid fn i c p s D ρ:=⟨hs,hq,hA,hup,hI,hP,hL⟩;have hb:(rW p).regs=p.regs:=rfl;unfold CQ at he⊢;by_cases e0:s.e≠0
 ·rw[if_pos e0]at he;exact absurd he e0
 rw[if_neg e0]at he⊢;dsimp only at he⊢;by_cases o2:t.op=2
 ·rw[if_pos o2]at he⊢;exact aL8 C X o2 hb he
 rw[if_neg o2]at he⊢;by_cases o4:t.op=4
 ·rw[if_pos o4]at he⊢;exact aSb C X o4 he
 rw[if_neg o4]at he⊢;by_cases o6:t.op=6
 ·rw[if_pos o6]at he⊢;exact aLu C X o6 (h6 o6) hb he
 rw[if_neg o6]at he⊢;by_cases o20:t.op=20
 ·rw[if_pos o20]at he⊢;exact aLs C X o20 hb he
 rw[if_neg o20]at he⊢;by_cases ol:t.op=10∨t.op=11∨t.op=12∨t.op=13∨t.op=14
 ·rw[if_pos ol]at he⊢;exact aNe C X ol hb he
 rw[if_neg ol]at he⊢;by_cases o21:t.op=21
 ·rw[if_pos o21]at he⊢;exact aE8 C X o21 hb rfl he
 rw[if_neg o21]at he⊢;by_cases o9:t.op=9
 ·rw[if_pos o9]at he⊢;exact aUe C X o9 hb he
 rw[if_neg o9]at he⊢;by_cases o23:t.op=23
 ·rw[if_pos o23]at he⊢;exact aJj C X o23 (by exact rfl) (by rw[gN,sD]) he
 rw[if_neg o23]at he⊢;exact aM2 C X (by omega) hb he
end
section
variable{E:List Fl}{R:RS}{wd:ByteArray→Int}
theorem aP4(hw:Fw E R):∀(n:Nat),(∀k,k.size≤n→dJ Vk k→NJ E R n (nbE wd n).1 k)∧∀k,k.size≤n→dJ Vk k→BJ E R n (nbE wd n).2 k
 |0=>⟨fun k h=>by have:=aS k;omega,fun k h=>by have:=aS k;omega⟩
 | n+1=>by obtain⟨h1,h2⟩:=aP4 hw n;obtain⟨p1,p2⟩:=TY (wd:=wd) n;have C:Cx E R (nbE wd n).1 (nbE wd n).2 n:=⟨hw,h1,h2,p1,p2⟩;exact⟨fun k hk hq=>aM9 C hk hq,fun k hk hq=>aO6 hw h1 h2 p1 p2 hk hq⟩
theorem XI{α:Type}{q:α→α→Prop}(hs:∀a b,q a b→q b a):∀{l:List α},l.Pairwise q→∀{a b:α},a∈l→b∈l→a≠b→q a b
 |[],_,_,_,h,_,_=>by cases h
 | x::r,f,a,b,g,hb,hne=>by
   rw[List.pairwise_cons]at f;rcases aR.1 g with e|e<;>rcases aR.1 hb with c|c
   ·exact absurd (e.trans c.symm) hne
   ·rw[e];exact f.1 b c
   ·rw[c];exact hs _ _ (f.1 a e)
   ·exact XI hs f.2 e c hne
theorem aLb(hw:Fw E R){t:T}(ht:t.op=1){f:Nat}(hf:t.size≤f+1)(hA:AtG E (f+1) t (-1) 0 0 0 0)(hl:E.length=t.size)(hq:dJ Vk t)(he:(yK wd f t).e=0){d d' :Nat}{y:ByteArray}(h1:0<d∧d<t.size)(h2:0<d' ∧d' <t.size)(i1:IsD E d y)(i2:IsD E d' y){o m b:Nat}(r1:Res E R d y o m b)(r2:Res E R d' y o m b)(w:PK E d=true∨PK E d' =true):d=d' :=by
 have i:=hA.kids;unfold rQ kH at i;rw[if_neg (by omega)]at i;have u:=hA.eat;have het:(aH E 0).t=t:=by rw[u]
 obtain⟨p1,p2⟩:=TY (wd:=wd) f;have l:=hq.here.vj.st (.inl ht);have q:nmE E 0=(bF t.kids false [],0):=by unfold nmE;rw[u];dsimp only;rw[if_pos ht]
 obtain⟨m0,r⟩:=hw.arr.yes 0 hw.pos (by rw[q];dsimp only;omega);have hI:Inv E R 1 [] (fun _=>1) ⟨[],1,0,0⟩:=⟨(fun p z=>by cases z),(fun p z=>by cases z),List.Pairwise.nil⟩;have hO:=tW (E:=E) (R:=R) (aP4 (wd:=wd) hw f).1 (g:=fun s k=>(nbE wd f).1 k (LN t) s) (fun s k h=>p1 k _ s h) (ρ0:=fun _=>1) t.kids (fun k hk=>⟨eN hf hk,hq.kid hk,(l k hk).m,fun _=>by rw[het];omega⟩) i (by omega) hI (fun k hk s _=>⟨LN t,s,rfl,rfl,fun jj x c ρ' _ ae w e=>?_⟩) he
 ·obtain⟨D,ρ,g1,-,g2⟩:=hO;rw[aY]at g1;have af:=aS t;have m1:=g2 d y (by omega) (by omega) i1;have m2:=g2 d' y (by omega) (by omega) i2;refine Decidable.byContradiction fun hne=>?_;have:=XI (fun a b h e o m b' r1 r2=>(h e.symm o m b' r2 r1).symm) g1.pw m1 m2 (fun h=>hne (congrArg Prod.fst h)) rfl o m b r1 r2;dsimp only at this;rw[this.1,this.2]at w;rcases w with h|h<;>cases h
 ·have ab:=eN hf hk;obtain⟨hx1,j⟩:=ae.rA ab;refine⟨fun o m ho hc _=>?_,?_⟩
  ·rw[show o=0 by
    rcases hw.chain ho j (by rw[hx1]) w hc with⟨h,-⟩|h
    ·exact h
    ·rw[hw.in0]at h;have:=h.uS;omega,e 0 (aC _)]
   exact aJ.2 rfl
  ·intro v hv h2 aa k' ad y hy;rcases hv with rfl|⟨h5,-⟩
   ·refine⟨0,m0,r,KI hw j (by rw[hx1]) (fun h=>by rw[het]at h;omega) r,?_,?_⟩
    ·rw[q];exact uB false [] hk h2 aa ad hy
    ·rw[e 0 (aC _)];rfl
   ·exact absurd h5 (l k hk).2.2
end
end
end Go.Proofs.YtlllalmkkaolfaaGreatDoor
