/- tree.Walk: the iterator's contract. -/
import Derived.Test.YtknieidhopbngaaGreatQax
set_option maxRecDepth 20000
set_option maxHeartbeats 2000000
namespace Go.Proofs.YtknieidhopbngaaGreat
section
open Go.RowKit Go.Vcg
namespace T
def xB:T→Nat→List (Nat×T)
 |mk o a n m s ks,d=>(d,mk o a n m s ks)::(ks.attach.map fun⟨k,_⟩=>xB k (d+1)).flatten
theorem tR(t:T)(d:Nat):xB t d=(d,t)::(t.kids.map fun k=>xB k (d+1)).flatten:=by
 cases t with
 | mk o a n m s ks=>
   rw[xB];simp[kids]
theorem LS:∀(n:Nat) (t:T),t.size≤n→∀d,(xB t d).length=t.size
 |0,t,h,d=>by rw[size_eq]at h;omega
 | n+1,t,h,d=>by rw[tR,size_eq,aF,List.length_flatten,List.map_map,lL];congr 2;refine kB fun k hk=>?_;obtain⟨i,hi⟩:=List.mem_iff_getElem?.1 hk;have:=dX hi;exact LS n k (by omega) (d+1)
def rL(l:List Nat):Nat:=l.foldr max 0
def depth:T→Nat|mk _ _ _ _ _ ks=>1+rL (ks.attach.map fun⟨k,_⟩=>k.depth)
theorem vZ(t:T):t.depth=1+rL (t.kids.map depth):=by
 cases t with
 |mk o a n m s ks=>rw[depth];simp[kids]
theorem aCt{l:List Nat}{n:Nat}(h:∀x∈l,x≤n):rL l≤n:=by
 induction l with
 |nil=>exact cU _
 | cons y l ih=>
   show max y (rL l)≤n
   have h1:=h y (aA ..);have h2:=ih fun x a=>h x (aS a);omega
theorem FE:∀(n:Nat) (t:T),t.size≤n→t.depth≤t.size
 |0,t,h=>by rw[size_eq]at h;omega
 | n+1,t,h=>by
   rw[vZ];have:rL (t.kids.map depth)≤(t.kids.map size).sum:=aCt fun x a=>by obtain⟨k,hk,rfl⟩:=List.mem_map.1 a;obtain⟨i,hi⟩:=List.mem_iff_getElem?.1 hk;have h1:=dX hi;have h2:=FE n k (by omega);have:=IL (List.mem_map.2 ⟨k,hk,rfl⟩:k.size∈t.kids.map size);omega
   rw[size_eq];omega
def mx(m:Nat)(xs:List (Nat×T)):Nat:=xs.foldl (fun m x=>max m (x.1+1)) m
theorem SO{d:Nat}:∀(ks:List T) (m:Nat),(∀k∈ks,∀m,mx m (xB k d)=max m (d+k.depth))→mx m (ks.map fun k=>xB k d).flatten=ks.foldl (fun m k=>max m (d+k.depth)) m
 |[],m,_=>rfl
 | k::r,m,h=>by have h1:=h k (aA ..) m;have h2:=SO r (max m (d+k.depth)) fun k' a=>h k' (aS a);unfold mx at h1 h2⊢;rw[bE,lA,List.foldl_append,h1,h2];rfl
theorem HZ{d:Nat}:∀(ks:List T) (m:Nat),d≤m→ks.foldl (fun m k=>max m (d+k.depth)) m=max m (d+rL (ks.map depth))
 |[],m,h=>by simp[rL];omega
 | k::r,m,h=>by
   have h2:=HZ (d:=d) r (max m (d+k.depth)) (by omega);rw[iN,h2];show _=max m (d+max k.depth (rL (r.map depth)))
   omega
theorem YN:∀(n:Nat) (t:T),t.size≤n→∀(d m:Nat),mx m (xB t d)=max m (d+t.depth)
 |0,t,h,_,_=>by rw[size_eq]at h;omega
 | n+1,t,h,d,m=>by
   rw[tR,vZ];have h1:=SO (d:=d+1) t.kids (max m (d+1)) fun k hk m=>by obtain⟨i,hi⟩:=List.mem_iff_getElem?.1 hk;have:=dX hi;exact YN n k (by omega) (d+1) m
   rw[HZ _ _ (by omega)]at h1;show mx (max m (d+1)) _=_
   rw[h1];omega
end T
theorem T.EE(t:T):t.kids.length<t.size:=by
 rw[T.size_eq];have:∀l:List T,l.length≤(l.map T.size).sum:=fun l=>by
  induction l with
  |nil=>simp
  | cons a r ih=>
    have:1≤a.size:=by rw[T.size_eq];omega
    simp;omega
 have:=this t.kids;omega
abbrev It:=Nat×T×Value
def aHk(x:It):List Value:=[.int .i64 x.1,.agg (dG x.2.1 x.2.2).toArray]
def OkK(μ:Mem)(x:It):Prop:=KR μ x.2.1.kids x.2.2∧x.1≤1000000∧x.2.1.size≤100000
def fI(x:It):Nat×T:=(x.1,x.2.1)
def OkI(μ:Mem)(LF:List (Nat×T))(pre:List It)(x:It):Prop:=OkK μ x∧(pre++[x]).map fI<+:LF
attribute [local irreducible] G GC GQ GA dV GI Calls IntKind.wrap Int.decLt Int.decLe
theorem KN:∀(l:List Nat) (i:Nat) (h:i<l.length),(l.take i).sum+l[i]≤l.sum
 |[],i,h=>absurd h (by simp)
 |x::r,0,h=>by simp
 | x::r,i+1,h=>by have:=KN r i (by simpa using h);simp only[dM,iB,List.getElem_cons_succ];omega
theorem aBp{ks:List T}{d:Nat}{xs:List It}(h:xs.map fI=(ks.map fun k=>T.xB k d).flatten):xs.length=(ks.map T.size).sum:=by
 have h1:=congrArg List.length h;rw[fA,List.length_flatten,List.map_map]at h1;rw[h1];congr 1;exact kB fun k _=>T.LS _ k (aP _) d
theorem pfx{α:Type}{ks:List T}{f:T→List α}{i:Nat}(h:i<ks.length){q:List α}(a:q<+:f ks[i]):((ks.take i).map f).flatten++q<+:(ks.map f).flatten:=by
 obtain⟨r,hr⟩:=a;have h1:ks.take i++ks[i]::ks.drop (i+1)=ks:=by rw[jH,fC]
 have h2:=congrArg (fun l=>(l.map f).flatten) h1;simp only[aE,bE,List.flatten_append,lA]at h2;refine⟨r++((ks.drop (i+1)).map f).flatten,?_⟩;rw[←h2,←hr];simp only[bR]
theorem EA{b t n:Nat}{cs:List Value}{μ:Mem}(h:Bk.sh (.inl ⟨b,t,n,idx 0 cs⟩) μ):iK μ ⟨b,0,none⟩ cs:=
 Blk.cells (k:=0) h (fun j v a=>AA cs 0 j v a)
theorem UD{μ:Mem}{LF:List (Nat×T)}{N lr:Nat}{J Jx:List It→World→Prop}(hJ:JAb J)(ai:JAb Jx)(hY:aF0 Tryz.prog lr aHk (OkI μ LF) μ N J Jx):∀(n:Nat),n≤100000→∀(t:T) (u:Value) (d:Nat) (pre:List It) (w:World),t.size≤n→d+n≤1000000→MOk μ w→KR μ t.kids u→J pre w→pre.length+t.size≤N→pre.map fI++T.xB t d<+:LF→
 Calls Tryz.prog 77 #[.agg (dG t u).toArray,.int .i64 d,.func (.yield lr) #[] #[]] w fun e w' =>
  (e=.returned (.bool true)∧MOk μ w' ∧∃xs,xs.map fI=T.xB t d∧(∀x∈xs,OkK μ x)∧J (pre++xs) w')∨(e=.returned (.bool false)∧∃q,q.map fI<+:T.xB t d∧(∀x∈q,OkK μ x)∧Jx (pre++q) w'):=by
 intro n;induction n with
 |zero=>intro _ t u d pre w hn;rw[T.size_eq]at hn;omega
 | succ n ih=>
   intro a8 t u d pre w hn bh hμ hk az hlen r;obtain⟨A,c,rfl,bf,ah⟩:=hk.form;have a1:=T.size_eq t;have bg:=T.EE t;refine aQ Tryz.func77 rfl Tryz.ntmps77 (by simp) hμ ?_;try repeat' (first|((with_reducible show GC _ _ (Code.region 1 _ _) _ _ _ _);refine MO ?_)|refine KZ ?_|refine NB fun b=>?_)
   refine zC qS (fun _ _ h=>by rcases h with⟨h,_⟩|⟨h,_⟩<;>cases h) rfl ?_;try repeat' (first|(with_reducible apply vT)|refine KZ ?_)
   refine zC qS (fun _ _ h=>by rcases h with⟨h,_⟩|⟨h,_⟩<;>cases h) rfl ?_;try repeat' (first|(with_reducible apply vT)|refine KZ ?_)
   refine zC qS (fun _ _ h=>by rcases h with⟨h,_⟩|⟨h,_⟩<;>cases h) rfl ?_;try repeat' (first|(with_reducible apply vT)|refine KZ ?_)
   refine VN hY (d,t,.slice A t.kids.length c) pre ⟨⟨hk,by show d≤1000000;omega,by show t.size≤100000;omega⟩,by
    rw[T.tR]at r;rw[aE];exact(List.prefix_append_right_inj _|>.2 (List.cons_prefix_cons.2 ⟨rfl,List.nil_prefix⟩)).trans r⟩ az (by omega) rfl rfl rfl rfl (fun a w h=>FX rfl rfl rfl a w h) ?_ ?_
   ·intro w1 μ1 ag af ae bc;obtain⟨ax,-⟩:=List.forall_mem_cons.1 af;have au:=EA ax;refine zC qS (fun _ _ h=>by rcases h with⟨h,_⟩|⟨h,_⟩<;>cases h) rfl ?_;try repeat' (first|(with_reducible apply vT)|refine KZ ?_)
    refine ZH ?_;try repeat' (first|refine KO ?_|(refine KV (b:=by((with_reducible apply qJ);exact rfl;exact rfl;exact au 5 _ rfl)) (c:=?_)))
    refine PQ ag fun w2 j v=>?_;have ay:=hJ _ _ _ ae j;refine ZJ (ι:=Nat×List It) (fun i w=>i.1≤t.kids.length∧i.2.map fI=((t.kids.take i.1).map fun k=>T.xB k (d+1)).flatten∧(∀x∈i.2,OkK μ x)∧J (pre++[(d,t,.slice A t.kids.length c)]++i.2) w) (fun i=>t.kids.length-i.1) (fun i=>[(17,.int .i64 i.1),(15,.slice A t.kids.length c),(16,.int .i64 t.kids.length),(1,.int .i64 d),(2,.func (.yield lr) #[] #[])]) (0,[]) ⟨by simp,by simp,by simp,by simpa using ay⟩ PU (fun i w w' h hb=>⟨h.1,h.2.1,h.2.2.1,hJ _ _ _ h.2.2.2 hb⟩) ?_;rintro⟨i,xs⟩ w3 ⟨ar,l,p,ab⟩ bb;dsimp only at ar l p ab⊢;by_cases o:i<t.kids.length
    ·obtain⟨ad,x,rfl,hm,ho,aq⟩:=ah i _ (aI o);have a7:=T.dX (aI o);have e1:((d:Int)+1)=((d+1:Nat):Int):=by omega
     have a6:=aBp l;have an:=KN (t.kids.map T.size) i (by simpa using o);rw[List.getElem_map,←List.map_take]at an;have z:∀w4,MOk μ w4→Below w3.heap.size w3 w4→Calls Tryz.prog 77 #[.agg (dG t.kids[i] x).toArray,.int .i64 ((d:Int)+1),.func (.yield lr) #[] #[]] w4 _:=fun w4 ak aw=>by
      rw[e1];exact ih (by omega) t.kids[i] x (d+1) (pre++[(d,t,.slice (some ad) t.kids.length c)]++xs) w4 (by omega) (by omega) ak aq (hJ _ _ _ ab aw) (by simp only[aB,aF,aL];omega) (by
       rw[T.tR]at r;rw[aE,aE,l,bR,bR];exact(List.prefix_append_right_inj _|>.2 (List.cons_prefix_cons.2 ⟨rfl,pfx o (List.prefix_refl _)⟩)).trans r)
     have al:t.kids.take (i+1)=t.kids.take i++[t.kids[i]]:=fT o;try repeat' (first|refine KO ?_|((with_reducible apply EV);(iterate 3 exact rfl);exact EN;exact z;all_goals(first|(rintro w5 ba ⟨xs2,hx1,aj,aa⟩)|(rintro w5 ⟨q,ap,ao,aa⟩)))|(refine KV (b:=by first|exact U1 i|exact U4 hm) (c:=?_))|refine KZ ?_|refine NB fun b=>?_)
     ·skip
      refine ZG (i+1,xs++xs2) (fun w6 av=>⟨by dsimp only;omega,?_,?_,?_⟩) (by dsimp only;omega) PU
      ·dsimp only;rw[al,aE,aE,l,hx1,List.flatten_append];simp only[bE,cN,lA,List.flatten_nil,bP]
      ·intro y g;rcases bU.1 g with g|g
       ·exact p y g
       ·exact aj y g
      ·have:=hJ _ _ _ aa av;simpa[bR]using this
     ·refine XN rfl (aN rfl) (fun w2 v j=>.inr ⟨rfl,[(d,t,.slice (some ad) t.kids.length c)]++xs++q,?_,?_,by have:=ai _ _ _ aa j;simpa[bR]using this⟩)
      ·rw[T.tR,aE,aE,l];exact List.cons_prefix_cons.2 ⟨rfl,pfx o ap⟩
      ·intro y g;rcases bU.1 g with g|g
       ·rcases bU.1 g with g|g
        ·rw[bM.1 g];exact⟨hk,by show d≤1000000;omega,by show t.size≤100000;omega⟩
        ·exact p y g
       ·exact ao y g
    ·have hi:i=t.kids.length:=by omega
     subst hi;try repeat' (refine KZ ?_)
     refine XN rfl (aN rfl) (fun w2 v j=>.inl ⟨rfl,v,(d,t,.slice A t.kids.length c)::xs,by rw[T.tR,bE,l,lM];rfl,?_,by have:=hJ _ _ _ ab j;simpa[bR]using this⟩);intro y g;rcases aV.1 g with rfl|g
     ·exact⟨hk,by show d≤1000000;omega,by show t.size≤100000;omega⟩
     ·exact p y g
   ·intro w1 ae;refine zC qS (fun _ _ h=>by rcases h with⟨h,_⟩|⟨h,_⟩<;>cases h) rfl ?_;try repeat' (first|(with_reducible apply vT)|refine KZ ?_)
    refine ZH ?_;try repeat' (refine KZ ?_)
    exact XN rfl (aN rfl) (fun w2 v j=>.inr ⟨rfl,[(d,t,.slice A t.kids.length c)],by rw[T.tR];simp[fI],by simp[OkK,hk];omega,ai _ _ _ ae j⟩)
end
section
open Go.RowKit Go.Vcg
attribute [local irreducible] G GC GQ GA dV GI GCI Calls IntKind.wrap Int.decLt Int.decLe
theorem WM{μ:Mem}{t:T}{u:Value}{b:Nat}(hk:KR μ t.kids u)(hs:t.size≤100000)(hb:iK μ ⟨b,0,none⟩ (dG t u)):
 aHr Tryz.prog 76 [.pointer (some ⟨b,0,none⟩)] aHk (OkI μ (T.xB t 0)) μ t.size (fun xs=>xs.map fI=T.xB t 0∧∀x∈xs,OkK μ x) (fun q=>q.map fI<+:T.xB t 0∧∀x∈q,OkK μ x):=by
 intro lr J Jx W hμ hJ h w y;refine aQ Tryz.func76 rfl Tryz.ntmps76 (by simp) hμ ?_;have a:∀w4,MOk μ w4→Below W.heap.size W w4→Calls Tryz.prog 77 #[.agg (dG t u).toArray,.int .i64 0,.func (.yield lr) #[] #[]] w4 _:=fun w4 j p=>
  UD hJ h w 100000 (aP _) t u 0 [] w4 hs (by omega) j hk (hJ _ _ _ y p) (by simp) (List.prefix_refl _)
 try repeat' (first|refine KO ?_|((with_reducible apply EV);(iterate 3 exact rfl);exact EN;exact a;all_goals(first|(rintro w5 r ⟨xs2,hx1,i,g⟩)|(rintro w5 ⟨q,l,k,g⟩)))|(refine KV (b:=by exact U4 hb) (c:=?_)))
 ·exact XM rfl (fun w2 v o d=>⟨⟨v,rfl⟩,.inl ⟨xs2,⟨hx1,i⟩,hJ _ _ _ g d⟩⟩) (.inr rfl)
 ·exact XM rfl (fun w2 v o d=>⟨⟨v,rfl⟩,.inr ⟨q,⟨l,k⟩,h _ _ _ g d⟩⟩) (.inr rfl)
def aAo(t:T)(u:Value)(μ:Mem)(v:Value):Prop:=∃b,v=.func (.func 76) #[] #[.pointer (some ⟨b,0,none⟩)]∧iK μ ⟨b,0,none⟩ (dG t u)
theorem NR(t:T)(u:Value)(w:World)(μ:Mem)(hμ:MOk μ w):Calls Tryz.prog 47 #[.agg (dG t u).toArray] w fun e w' =>∃v μ',e=.returned v∧oH w w' μ μ' ∧aAo t u μ' v:=by
 refine aQ Tryz.func47 rfl Tryz.ntmps47 (by simp) hμ ?_;try repeat' (first|refine KZ ?_|refine NB fun b=>?_)
 exact OP rfl (aN rfl) (fun μ' hle hL=>⟨_,rfl,EA (hL _ (aA ..))⟩)
theorem aH3{D:Nat}{n:Nat}(h:n≤D):∀b∈[D,D],n≤b:=fun b hb=>by
 simp at hb;omega
def mxI(pre:List It):Nat:=T.mx 0 (pre.map fI)
theorem YO(pre:List It)(x:It):mxI (pre++[x])=max (mxI pre) (x.1+1):=by
 unfold mxI T.mx;rw[aE,List.foldl_append];rfl
theorem FD(t:T)(v:Value)(w:World)(μ:Mem)(hμ:MOk μ w)(ht:TV μ t v)(hs:t.size≤100000):
 aO 27 #[v] w (.int .i64 t.depth):=by
 obtain⟨u,rfl,hk⟩:=ht;refine NN Tryz.func27 rfl Tryz.ntmps27 (by simp) hμ ?_;try repeat' (first|refine KZ ?_|((with_reducible apply F2 47);exact rfl;exact EN;exact fun w hw=>NR t u w _ hw;rintro v1 μ1 d ⟨b1,rfl,k⟩)|refine NB fun b=>?_)
 refine yA [(0,.int .i64 0)] PU ?_;refine JP (α:=It) (ι:=Nat) (ps:=[7,8]) (lb:=[.pointer (some ⟨b1,0,none⟩)]) rfl (by kernel_rfl) (fun x=>rfl) (by simp) (WM (hk.mono d) hs k) (fun pre i=>i=mxI pre) (fun _ _ _=>False) (fun i=>[.inl ⟨b,3,1,[(0,.int .i64 (i:Int))]⟩]) 0 rfl PS (κ:=Unit) (fun x _=>[(4,.int .i64 (x.1:Int)),(3,.pointer (some ⟨b,0,none⟩))]) (fun _ i _=>[.inl ⟨b,3,1,[(0,.int .i64 (i:Int))]⟩]) ?_ ?_ ?_ ?_
 ·intro lr pre x i w1 a;try repeat' (first|(((with_reducible apply ER);exact AR _;exact fun _ _ h=>h;exact rfl))|refine KZ ?_)
  exact aHd () PU PS
 ·rintro lr pre x i _ w2 a rfl p;have hx1:x.1≤1000000:=a.1.2.1;try repeat' (first|(with_reducible (apply VO))|(((with_reducible apply ER);exact AR _;exact fun _ _ h=>h;exact rfl))|refine KZ ?_)
  have e:(if(mxI pre:Int)< (x.1:Int)+1 then(x.1:Int)+1 else(mxI pre:Int))=((mxI (pre++[x]):Nat):Int):=by rw[YO];split<;>omega
  rw[e];refine PP [(0,.int .i64 ((mxI (pre++[x]):Nat):Int))] PU ?_;exact aHc (mxI (pre++[x])) rfl (by repeat exact aH _)
 ·rintro D μD xs j l hle ⟨g,o⟩ rfl;have hl:mxI xs=t.depth:=by unfold mxI;rw[g,T.YN t.size t (aP _)];omega
  rw[hl];try repeat' (refine KZ ?_)
  exact aGl rfl (aN rfl) rfl (aH3 l)
 ·rintro D μD c pre j l hle q hf;exact hf.elim
end
end Go.Proofs.YtknieidhopbngaaGreat
namespace Go.Vcg
open Go.RowKit
section
variable{P:Program}{μ:Mem}{l:bG}{L Lr:List Bk}{w:World}
theorem XO{fn:Func}{n:Nat}{r r2 r3:ResultVar}{v v2 v3:Value}{μ0:Mem}{M:List Nat}{R:Mem→Value→Prop}{x y:Bk}(k:∀D,M.count D≤1)(hr:fn.results= #[r,r2,r3])(h:RV P μ l L r v)(h2:RV P μ l L r2 v2)(h3:RV P μ l L r3 v3)(hL:splitB (L.length-1) L=some (Lr,[y]))(j:jC x y)
 (hp:∀μ',MLe μ μ' →(∀z∈Lr,Bk.sh z μ')→R μ' (.tuple #[v,v2,v3])):
 GQ ⟨w,μ0,M,n⟩ (bodyPost P fn (fun e w' =>∃(v:Value) (μ' :Mem) (_:Unit),e=.returned v∧iO M w w' μ0 [x] μ' ∧R μ' v)) .ret μ l L:=fun a w' hs=>by
 have he:=iA hL;subst he;obtain⟨μ1,c,d,g⟩:=St.qT hs;obtain⟨μ2,hb,b⟩:=St.rH (L' :=[y]) (Lr:=[]) g;exact⟨hs.defers.none k,_,yO (rs:=[r,r2,r3]) (vs:=[v,v2,v3]) hr (eN h (eN h2 (eN h3 jW))) rfl hs.rd,_,μ2,(),rfl,hb.le1 j,hp μ2 (c.trans b) fun z i=>Bk.wM (d z i) b⟩
theorem RY{ι:Type}{Ls:ι→List Bk}{LB:List Bk}{fn:Func}{n:Nat}{r r2 r3:ResultVar}{v v2 v3:Value}{μ0:Mem}{M:List Nat}{R:Mem→Value→ι→Prop}(k:Nat)(j:ι)(p:∀D,M.count D≤1)(hr:fn.results= #[r,r2,r3])(h:RV P μ l L r v)(h2:RV P μ l L r2 v2)(h3:RV P μ l L r3 v3)(hL:splitB k L=some (Lr,LB))(g:Ls j=LB)
 (hp:∀μ',MLe μ μ' →R μ' (.tuple #[v,v2,v3]) j):
 GQ ⟨w,μ0,M,n⟩ (bodyPost P fn (fun e w' =>∃(v:Value) (μ' :Mem) (i:ι),e=.returned v∧iO M w w' μ0 (Ls i) μ' ∧R μ' v i)) .ret μ l L:=fun a w' hs=>by
 have he:=iA hL;subst he;obtain⟨μ1,c,o,d⟩:=St.qT hs;obtain⟨μ2,hb,b⟩:=St.rH (L' :=LB) (Lr:=[]) (by rw[bP];exact d);exact⟨hs.defers.none p,_,yO (rs:=[r,r2,r3]) (vs:=[v,v2,v3]) hr (eN h (eN h2 (eN h3 jW))) rfl hs.rd,_,μ2,j,rfl,by rw[g];exact hb,hp μ2 (c.trans b)⟩
end
end Go.Vcg
namespace Go.Proofs.YtknieidhopbngaaGreat
section
open Go.RowKit Go.Vcg
theorem TC:∀(l:List Nat) (m:Nat),l.foldl max m=max m (T.rL l)
 |[],m=>by show m=max m 0;omega
 | x::l,m=>by
   rw[iN,TC l];show max (max m x) (T.rL l)=max m (max x (T.rL l))
   omega
theorem JU(t:T):BX t=t.depth:=T.ind (p:=fun t=>BX t=t.depth) (fun t ih=>by
 rw[T.vZ];obtain⟨o,a,n,m,s,ks⟩:=t;have h:BX (T.mk o a n m s ks)=1+ (ks.map BX).foldl max 0:=by rw[BX];simp
 rw[h,TC,Nat.zero_max];show 1+T.rL (ks.map BX)=1+T.rL (ks.map T.depth)
 rw[show ks.map BX=ks.map T.depth from kB fun k hk=>ih k hk]) t
def TR3(μ:Mem)(x:T×Int×Int)(v:Value):Prop:=∃u,v=.tuple #[.agg (dG x.1 u).toArray,.int .i64 x.2.1,.int .i64 x.2.2]∧KR μ x.1.kids u
def RL(E:TkE)(t:T)(s:RdS):(T×Int×Int)×RdS:=(uU E t s,if s.e=0∧(aJ E s).k≠0 then iE E s else s)
section
variable{P:Program}{μ:Mem}{l:bG}{L Lr:List Bk}{w:World}{fn:Func}{n:Nat}{r r2 r3:ResultVar}{μ0:Mem}{M:List Nat}{x y:Bk}{t:T}{u:Value}
theorem IW{a b:Int}(g:∀D,M.count D≤1)(hr:fn.results= #[r,r2,r3])(h:RV P μ l L r (.agg (dG t u).toArray))(h2:RV P μ l L r2 (.int .i64 a))(h3:RV P μ l L r3 (.int .i64 b))(hL:splitB (L.length-1) L=some (Lr,[y]))(d:jC x y)(hp:∀μ',MLe μ μ' →(∀z∈Lr,Bk.sh z μ')→KR μ' t.kids u):
 GQ ⟨w,μ0,M,n⟩ (bodyPost P fn (fun e w' =>∃(v:Value) (μ' :Mem) (_:Unit),e=.returned v∧iO M w w' μ0 [x] μ' ∧TR3 μ' (t,a,b) v)) .ret μ l L:=XO (R:=fun μ' v=>TR3 μ' (t,a,b) v) g hr h h2 h3 hL d fun μ' hle c=>⟨u,rfl,hp μ' hle c⟩
end
end
section
open Go.RowKit Go.Vcg
attribute [local irreducible] jE G GC GQ GA dV Calls IntKind.wrap Int.decLt Int.decLe
section
variable{E:TkE}{src:ByteArray}{V:RPl}{xb n:Nat}{r:RdR}{s:RdS}{μ:Mem}(hE:TOk E src)(hr:nB E src n r)(hw:rO E src V xb n r)(hi:In E src s)(hm:RM E V μ)
include hE hr hw hi hm
theorem RZ(t:T)(u:Value)(hk:KR μ t.kids u)(h:s.e=0→t.size≤100000):zCR E V xb 13 [.pointer (some ⟨xb,0,none⟩),.agg (dG t u).toArray] s (RL E t s).2 μ (fun μ' v=>TR3 μ' (RL E t s).1 v):=by
 have _:=hr
 intro w hμ i;have c:=bF i.diff;have hl:=hi.lt;have o_u:=hk.one;generalize a:RL E t s=q;unfold RL uU at a;try dsimp only at a
 rw[JU]at a;by_cases c1:s.e=0∧(aJ E s).k≠0
 ·rw[if_pos c1]at a;obtain⟨c1_0,c1_1⟩:=id c1;obtain⟨s1,e1,m1,l1,t1,o1⟩:=kV hE (mv0 hi);have j:=m1.inn hi;rw[e1]at a;rw[if_pos o1]at a;subst a;refine aC Tryz.func13 rfl Tryz.ntmps13 (by simp) hμ i ?_;try repeat' (first|refine KO ?_|(refine CF 22 ?_;refine GP1 rfl (bK (by assumption) (hm.mono ML)) ?_;dsimp only[ca,na])|(refine CF 26 ?_;refine GU1 rfl (lY (by assumption) (by assumption) (hm.mono ML)) ?_;intro v9;dsimp only[ca,na])|refine KZ ?_|refine NB fun b=>?_)
  refine aW 12 _ (by kernel_rfl) rfl (aG (aK (aK aU))) ?_;all_goals(refine DD 0 ?_;refine DD 1 ?_;refine DD 2 ?_;refine DD 3 ?_;refine DD 4 ?_;refine DD 5 ?_;refine DD 6 ?_;refine DD 7 ?_;refine DD 8 ?_;refine D3 9 ?_;refine D5 ?_;refine Y0 ?_;refine D9 ?_;refine DD 10 ?_;refine DD 11 ?_;refine D8 ?_)
  all_goals try repeat' (refine KO ?_)
  all_goals(apply IW c rfl;exact(RG 0 rfl rfl rfl rfl rfl);exact aN rfl;exact aN rfl;exact rfl;exact .refl _;exact fun μ' hle d=>KR.nil _ _ _)
 ·rw[if_neg c1]at a;by_cases c2:s.e≠0
  ·rw[if_pos c2]at a;subst a;refine aC Tryz.func13 rfl Tryz.ntmps13 (by simp) hμ i ?_;try repeat' (first|refine KZ ?_|refine NB fun b=>?_)
   refine aW 12 _ (by kernel_rfl) rfl (aG (aK (aK aU))) ?_;all_goals(refine DD 0 ?_;refine DD 1 ?_;refine DD 2 ?_;refine DD 3 ?_;refine DD 4 ?_;refine DD 5 ?_;refine DD 6 ?_;refine DD 7 ?_;refine DD 8 ?_;refine D3 9 ?_;refine D5 ?_;refine Y0 ?_;refine D9 ?_;refine DD 10 ?_;refine DD 11 ?_;refine D8 ?_)
   all_goals try repeat' (refine KO ?_)
   all_goals(apply IW c rfl;exact(RG 0 rfl rfl rfl rfl rfl);exact aN rfl;exact aN rfl;exact rfl;exact .refl _;exact fun μ' hle d=>KR.nil _ _ _)
  ·rw[if_neg c2]at a;have c2e:s.e=0:=by omega
   by_cases c3:200<t.depth
   ·rw[if_pos c3]at a;subst a;refine aC Tryz.func13 rfl Tryz.ntmps13 (by simp) hμ i ?_;try repeat' (first|refine KO ?_|(refine CF 22 ?_;refine GP1 rfl (bK (by assumption) (hm.mono ML)) ?_;dsimp only[ca,na])|((with_reducible apply F1 27);exact rfl;exact EN;exact fun w μc hw g=>FD t _ w μc hw ⟨u,rfl,(hk.mono g.le)⟩ (h (by assumption)))|refine KZ ?_|refine NB fun b=>?_)
    all_goals(apply IW c rfl;exact(RG 0 rfl rfl rfl rfl rfl);exact aN rfl;exact aN rfl;exact rfl;exact .refl _;exact fun μ' hle d=>KR.nil _ _ _)
   ·rw[if_neg c3]at a;subst a;refine aC Tryz.func13 rfl Tryz.ntmps13 (by simp) hμ i ?_;try repeat' (first|refine KO ?_|(refine CF 22 ?_;refine GP1 rfl (bK (by assumption) (hm.mono ML)) ?_;dsimp only[ca,na])|((with_reducible apply F1 27);exact rfl;exact EN;exact fun w μc hw g=>FD t _ w μc hw ⟨u,rfl,(hk.mono g.le)⟩ (h (by assumption)))|refine KZ ?_|refine XS0 ?_|refine NB fun b=>?_)
    all_goals(apply IW c rfl;exact(RG 0 rfl rfl rfl rfl rfl);exact aN rfl;exact aN rfl;exact rfl;exact .refl _;exact fun μ' hle d=>hk.mono hle)
end
end
section
open Go.RowKit Go.Vcg
def OLs(ts:List Tok):Option (Nat×RPl)→List Bk
 |none=>[]
 |some (xb,V)=>[RB (iH ts) V xb rs0]
def UB(r:List Tok×Nat×Int)(μ:Mem)(v:Value):Option (Nat×RPl)→Prop
 |none=>r.2.2≠0∧v=.tuple #[.pointer none,.int .i64 r.2.1,.int .i64 r.2.2]
 |some (xb,V)=>r.2.2=0∧v=.tuple #[.pointer (some ⟨xb,0,none⟩),.int .i64 0,.int .i64 0]∧RM (iH r.1) V μ
def qZ(s:ByteArray):T×Int×Int:=if(mW (bl s)).2.2≠0 then(T.zero,(mW (bl s)).2.1,(mW (bl s)).2.2)else lP (mW (bl s)).1
def xN(s:ByteArray):T×Int×Int:=if(mW (bl s)).2.2≠0 then(T.zero,(mW (bl s)).2.1,(mW (bl s)).2.2)else aAa (mW (bl s)).1
attribute [local irreducible] mW rC gN uU nW G GC GQ GA dV Calls IntKind.wrap Int.decLt Int.decLe
section
variable{X:Ctx}{ops:Array Oper}{Q:Exit→Act→World→Prop}{rest:List Oper}{μ:Mem}{l:bG}{L Lr:List Bk}{o:Oper}{d:Nat}{xb:Nat}
theorem aH8{ts:List Tok}{A:Option Addr}{c:Nat}(i:Sl eB 7 μ A ts.length ts)(g:0<ts.length)(a:ts.length≤30000)(hd:o.dst=some d)(hn:Nat.blt d X.n=true)(hw:dW ops l o=some true)(hr:Ent Tryz.prog μ l L o 21 #[.pointer (some ⟨xb,0,none⟩)])(hL:splitB (L.length-1) L=some (Lr,[RB0 ts.length A c xb]))
 (h:∀(v:Value) (μ' :Mem) (b:Nat),MLe μ μ' →RM (iH ts) ⟨A,c,some ⟨b,0,none⟩,ts.length⟩ μ' →G Tryz.prog X ops Q rest μ' ((d,v)::l) (Lr++[RB (iH ts) ⟨A,c,some ⟨b,0,none⟩,ts.length⟩ xb rs0])):G Tryz.prog X ops Q (o::rest) μ l L:=
 nN (ι:=Nat) (Ls:=fun b=>[RB (iH ts) ⟨A,c,some ⟨b,0,none⟩,ts.length⟩ xb rs0]) (Post:=fun μ' _ b=>Sl PY 1 μ' (some ⟨b,0,none⟩) ts.length (iH ts).cl∧∀x∈(iH ts).cl,-1≤x∧x<ts.length) _ hd hn hw hr hL (fun w hμ j=>XU i g a w hμ j) fun v μ' b hle hp=>h v μ' b hle ⟨i.mono hle,hp.1,by show ts.length≤100000;omega,hp.2⟩
theorem aCh{r:List Tok×Nat×Int}{s:ByteArray}(hc:∀w,MOk μ w→Go.Vcg.Own μ [] w→Calls Tryz.prog 11 #[.string s] w fun e w' =>∃v μ' i,e=.returned v∧iO (fM []) w w' μ (OLs r.1 i) μ' ∧UB r μ' v i)(hd:o.dst=some d)(hn:Nat.blt d X.n=true)(hw:dW ops l o=some true)(hr:Ent Tryz.prog μ l L o 11 #[.string s])(hL:splitB L.length L=some (Lr,[]))
 (h:∀(v:Value) (μ' :Mem) (i:Option (Nat×RPl)),MLe μ μ' →UB r μ' v i→G Tryz.prog X ops Q rest μ' ((d,v)::l) (Lr++OLs r.1 i)):G Tryz.prog X ops Q (o::rest) μ l L:=
 nN (ι:=Option (Nat×RPl)) (Ls:=fun i=>OLs r.1 i) (Post:=fun μ' v i=>UB r μ' v i) _ hd hn hw hr hL hc h
end
theorem SA(s:ByteArray)(hs:s.size≤4000){r:List Tok×Nat×Int}(hr:mW (bl s)=r)(g:r.2.2=0→0<r.1.length∧r.1.length≤30000)(μ:Mem)(u:lE μ)(w:World)(hμ:MOk μ w)(p:Go.Vcg.Own μ [] w):
 Calls Tryz.prog 11 #[.string s] w fun e w' =>∃v μ' i,e=.returned v∧iO (fM []) w w' μ (OLs r.1 i) μ' ∧UB r μ' v i:=by
 have d:=bF p.diff;have a:=fun(w:World) (hw:MOk μ w)=>aAt s (by omega) w μ hw u;unfold CV at a;rw[hr]at a;obtain⟨ts,a0,e0⟩:=r;dsimp only at a g;by_cases he:e0=0
 ·subst he;obtain⟨o,k⟩:=g rfl;refine aC Tryz.func11 rfl Tryz.ntmps11 (by simp) hμ p ?_;try repeat' (first|refine KO ?_|(refine CF 21 ?_;refine nY (L' :=[RB0 ts.length A c b]) PS ?_;(with_reducible apply aH8 h o k);(iterate 3 exact rfl);exact EN;exact rfl;rintro v2 μ2 b2 q l;dsimp only[ca,na])|refine KZ ?_|((with_reducible apply F2 20);exact rfl;exact EN;exact fun w hw=>a w hw;rintro v1 μ1 j ⟨A,c,rfl,h⟩)|refine NB fun b=>?_)
  all_goals try(exfalso;omega)
  all_goals exact RY 0 (some (b,⟨A,c,some ⟨b2,0,none⟩,ts.length⟩)) d rfl (aN rfl) (aN rfl) (aN rfl) rfl rfl fun μ' hle=>⟨rfl,rfl,l.mono hle⟩
 ·refine aC Tryz.func11 rfl Tryz.ntmps11 (by simp) hμ p ?_;try repeat' (first|refine KO ?_|((with_reducible apply F2 20);exact rfl;exact EN;exact fun w hw=>a w hw;rintro v1 μ1 j ⟨A,c,rfl,h⟩))
  all_goals try(exfalso;omega)
  all_goals exact RY 0 none d rfl (aN rfl) (aN rfl) (aN rfl) rfl rfl fun μ' hle=>⟨he,rfl⟩
theorem OV(s:ByteArray)(hs:s.size≤3000)(w:World)(μ:Mem)(hμ:MOk μ w)(hM:lE μ):
 Calls Tryz.prog 5 #[.string s] w fun e w' =>∃v μ',e=.returned v∧oH w w' μ μ' ∧TR3 μ' (qZ s) v:=by
 have a:s.size≤4000:=by omega
 unfold qZ;obtain⟨g1,g2⟩:=QU a;generalize hr:mW (bl s)=r at g1 g2;have h:r.2.2=0→0<r.1.length∧r.1.length≤30000:=fun e=>by obtain⟨h1,h2⟩:=g1 e;exact⟨(DB a h1).len,by omega⟩
 have k:=fun(μ9:Mem) (h9:MLe μ μ9) (w:World) (hμ:MOk μ9 w) (hO:Go.Vcg.Own μ9 [] w)=>SA s a hr h μ9 (hM.mono h9) w hμ hO;by_cases he:r.2.2≠0
 ·rw[if_pos he];refine aQ Tryz.func5 rfl Tryz.ntmps5 (by simp) hμ ?_;try repeat' (first|refine KO ?_|(refine CF 11 ?_;(with_reducible apply aCh (k _ ML));(iterate 3 exact rfl);exact EN;exact rfl;rintro v1 μ1 i u hp;(rcases i with _|⟨xb,V⟩);(rotate_left 1);exact absurd hp.1 he;obtain⟨ad,rfl⟩:=hp;dsimp only[OLs,bP,kY,jK])|refine KZ ?_|refine NB fun b=>?_)
  all_goals try(exfalso;omega)
  all_goals exact vE rfl (RG 0 rfl rfl rfl rfl rfl) (aN rfl) (aN rfl) fun μ' hle hL=>⟨_,rfl,KR.nil _ _ _⟩
 ·rw[if_neg he];have g:r.2.2=0:=Decidable.not_not.1 he;obtain⟨hg,hlen⟩:=g1 g;obtain⟨ts,a0,e0⟩:=r;dsimp only at he g hg hlen h k⊢;have hE:=DB a hg;have ag:0<ts.length:=hE.len;have hi:In (iH ts) s rs0:=⟨hE.len,⟨gH _,by show(0:Int)≤_;omega⟩,aP _⟩;have aa:(iH ts).ts.length≤30000:=(h g).2;have j:=qV hE (nZ (iH ts));have z:∀s9:RdS,8*((iH ts).ts.length-s9.i)+6≤nZ (iH ts):=fun s9=>by unfold nZ;omega
  have l:=fun(V:RPl) (xb:Nat) (μ9:Mem) (h9:RM (iH ts) V μ9)=>CD (xb:=xb) hE j (xH hE aa (nZ (iH ts))) (UI (iH ts) _) hi h9 false (fun _=>z _);have d:=vO hE j false hi (fun _=>z _);unfold lP;dsimp only;generalize rC (iH ts) (sB (iH ts) (nZ (iH ts))) false rs0=p at l d⊢;obtain⟨⟨kl,st⟩,s1⟩:=p;unfold bd;dsimp only at l d⊢;have y:In (iH ts) s s1:=d.mv.inn hi;have ab:∀N:Int,s1.e=0→(T.mk 1 0 N 0 empty kl).size≤100000:=fun N e=>by have h1:=(d.ok e).1;dsimp only at h1;have h2:=yM (T.mk 1 0 N 0 empty kl);rw[xA _ _ _ _ _ _ (by decide)]at h2;have h3:=y.lt;have h4:(iH ts).ts.length=ts.length:=rfl;have h5:rs0.i=0:=rfl;omega
  cases st;all_goals
   refine aQ Tryz.func5 rfl Tryz.ntmps5 (by simp) hμ ?_;try repeat' (first|refine KO ?_|(refine CF 11 ?_;(with_reducible apply aCh (r:=(ts,a0,e0)) (k _ ML));(iterate 3 exact rfl);exact EN;exact rfl;rintro v1 μ1 i u hp;(rcases i with _|⟨xb,V⟩);exact absurd g hp.1;obtain⟨ad,rfl,c⟩:=hp;dsimp only[OLs,kY,jK])|(refine CF 12 ?_;refine GR2 rfl (l V xb _ c) ?_;rintro v2 μ2 q ⟨u2,rfl,o⟩;obtain⟨A2,c2,rfl,af,-⟩:=KR.form o;dsimp only at o;have c:=c.mono q;dsimp only[ca,na])|(refine CF 13 ?_;refine GR2 rfl (RZ (E:=iH ts) hE j (xH hE aa (nZ (iH ts))) y c (T.mk 1 0 _ 0 empty kl) _ o (ab _)) ?_;rintro v3 μ3 ae ⟨u3,rfl,x⟩;have o_u3:=x.one;dsimp only[ca,na])|refine KZ ?_|refine NB fun b=>?_)
   all_goals exact vE rfl (by exact(RG 1 rfl rfl rfl rfl rfl)) (aN rfl) (aN rfl) fun μ' hle hL=>⟨_,rfl,x.mono hle⟩
theorem CG(s:ByteArray)(hs:s.size≤3000)(w:World)(μ:Mem)(hμ:MOk μ w)(hM:lE μ):
 Calls Tryz.prog 9 #[.string s] w fun e w' =>∃v μ',e=.returned v∧oH w w' μ μ' ∧TR3 μ' (xN s) v:=by
 have a:s.size≤4000:=by omega
 unfold xN;obtain⟨g1,g2⟩:=QU a;generalize hr:mW (bl s)=r at g1 g2;have h:r.2.2=0→0<r.1.length∧r.1.length≤30000:=fun e=>by obtain⟨h1,h2⟩:=g1 e;exact⟨(DB a h1).len,by omega⟩
 have k:=fun(μ9:Mem) (h9:MLe μ μ9) (w:World) (hμ:MOk μ9 w) (hO:Go.Vcg.Own μ9 [] w)=>SA s a hr h μ9 (hM.mono h9) w hμ hO;by_cases he:r.2.2≠0
 ·rw[if_pos he];refine aQ Tryz.func9 rfl Tryz.ntmps9 (by simp) hμ ?_;try repeat' (first|refine KO ?_|(refine CF 11 ?_;(with_reducible apply aCh (k _ ML));(iterate 3 exact rfl);exact EN;exact rfl;rintro v1 μ1 i q hp;(rcases i with _|⟨xb,V⟩);(rotate_left 1);exact absurd hp.1 he;obtain⟨ad,rfl⟩:=hp;dsimp only[OLs,bP,kY,jK])|refine KZ ?_|refine NB fun b=>?_)
  all_goals try(exfalso;omega)
  all_goals exact vE rfl (RG 0 rfl rfl rfl rfl rfl) (aN rfl) (aN rfl) fun μ' hle hL=>⟨_,rfl,KR.nil _ _ _⟩
 ·rw[if_neg he];have g:r.2.2=0:=Decidable.not_not.1 he;obtain⟨hg,hlen⟩:=g1 g;obtain⟨ts,a0,e0⟩:=r;dsimp only at he g hg hlen h k⊢;have hE:=DB a hg;have af:0<ts.length:=hE.len;have hi:In (iH ts) s rs0:=⟨hE.len,⟨gH _,by show(0:Int)≤_;omega⟩,aP _⟩;have aa:(iH ts).ts.length≤30000:=(h g).2;have j:=qV hE (nZ (iH ts));have z:∀s9:RdS,8*((iH ts).ts.length-s9.i)+5≤nZ (iH ts):=fun s9=>by unfold nZ;omega
  have l:=fun(V:RPl) (xb:Nat) (μ9:Mem) (h9:RM (iH ts) V μ9)=>lO (xb:=xb) hE j (xH hE aa (nZ (iH ts))) hi h9 true (z _);have d:=iS hE j true hi (z _);unfold aAa;dsimp only;generalize gN (iH ts) (sB (iH ts) (nZ (iH ts))) true rs0=p at l d⊢;obtain⟨x1,s1⟩:=p;unfold bd;dsimp only at l d⊢;have y:In (iH ts) s s1:=d.mv.inn hi;have ab:s1.e=0→x1.size≤100000:=fun e=>by have h1:=(d.ok e).1;dsimp only at h1;have h2:=yM x1;have h3:=y.lt;have h4:(iH ts).ts.length=ts.length:=rfl;have h5:rs0.i=0:=rfl;omega
  refine aQ Tryz.func9 rfl Tryz.ntmps9 (by simp) hμ ?_;try repeat' (first|refine KO ?_|(refine CF 11 ?_;(with_reducible apply aCh (r:=(ts,a0,e0)) (k _ ML));(iterate 3 exact rfl);exact EN;exact rfl;rintro v1 μ1 i q hp;(rcases i with _|⟨xb,V⟩);exact absurd g hp.1;obtain⟨ad,rfl,c⟩:=hp;dsimp only[OLs,kY,jK])|(refine CF 16 ?_;refine GR2 rfl (l V xb _ c) ?_;rintro v2 μ2 o ⟨u2,rfl,x⟩;have o_u2:=x.one;have c:=c.mono o;dsimp only[ca,na])|(refine CF 13 ?_;refine GR2 rfl (RZ (E:=iH ts) hE j (xH hE aa (nZ (iH ts))) y c x1 _ x ab) ?_;rintro v3 μ3 ae ⟨u3,rfl,u⟩;have o_u3:=u.one;dsimp only[ca,na])|refine KZ ?_|refine NB fun b=>?_)
  all_goals exact vE rfl (by exact(RG 0 rfl rfl rfl rfl rfl)) (aN rfl) (aN rfl) fun μ' hle hL=>⟨_,rfl,u.mono hle⟩
end
section
open Go.RowKit Go.Vcg
attribute [local irreducible] G GC GQ GA dV Calls IntKind.wrap Int.decLt Int.decLe
theorem VZ(l:List Nat)(x:Nat):T.rL (l++[x])=max (T.rL l) x:=by
 induction l with
 |nil=>simp[T.rL]
 | cons y l ih=>
   show max y (T.rL (l++[x]))=max (max y (T.rL l)) x
   rw[ih];omega
theorem LK:∀(n:Nat),n≤100000→∀(t:T) (v:Value) (w:World) (μ:Mem),MOk μ w→t.size≤n→TV μ t v→
 aO 14 #[v] w (.int .i64 t.depth):=by
 intro n;induction n with
 |zero=>intro _ t v w μ hμ hn _;exact absurd hn (by rw[T.size_eq];omega)
 | succ n ih=>
   intro o t v w μ hμ hn ht;have hlen:=T.EE t;have k:=T.vZ t;have r:=T.FE _ t hn;obtain⟨u,rfl,hk⟩:=ht;obtain⟨A,c,rfl,p,g⟩:=hk.form;refine aQ Tryz.func14 rfl Tryz.ntmps14 (by simp) hμ ?_;try repeat' (first|refine KZ ?_|refine NB fun b=>?_)
   refine dH (ι:=Nat) (fun i=>i≤t.kids.length) (fun i=>t.kids.length-i) (fun _=>μ) (fun i=>[(3,.int .i64 ((T.rL ((t.kids.take i).map T.depth):Nat):Int)),(4,.int .i64 i),(1,.pointer (some ⟨b,0,none⟩))]) (fun _=>[.inl ⟨b,25,6,idx 0 (dG t (.slice A t.kids.length c))⟩]) 0 (by simp) (fun a w hs=>J6 hs) ?_;intro i q;by_cases d:i<t.kids.length
   ·obtain⟨ad,x,rfl,hm,ho,j⟩:=g i _ (aI d);have l:=T.dX (aI d);try repeat' (first|refine KO ?_|((with_reducible apply C1);exact rfl;exact EN;exact fun w μc hw h=>ih (by omega) _ _ w μc hw (by omega) ⟨x,rfl,j.mono h.le⟩)|(refine KV (b:=by first|exact U1 i|exact U4 hm) (c:=?_))|refine KZ ?_)
    have e:(if((T.rL ((t.kids.take i).map T.depth):Nat):Int)< (t.kids[i].depth:Int)then(t.kids[i].depth:Int)else((T.rL ((t.kids.take i).map T.depth):Nat):Int))=((T.rL ((t.kids.take (i+1)).map T.depth):Nat):Int):=by rw[fT d,aE,bE,cN,VZ];split<;>omega
    rw[e];refine J4 (i+1) (by omega) (by omega)
   ·have hi:i=t.kids.length:=by omega
    subst hi;rw[lM];try repeat' (refine KZ ?_)
    exact xS rfl (by exact aN rfl) (by rw[k];congr 1;omega)
end
section
open Go.RowKit Go.Vcg
theorem aCq(p:T→Bool)(m:Int)(hm:m≠2)(l:List T):vY p m 1 l=(1,l):=by
 cases l with
 |nil=>rfl
 |cons k r=>rw[vY,if_neg (by simp[hm])]
theorem PW(p:T→Bool)(r:List ((T→Bool)×Int))(l:List T):oG ((p,0)::r) l=match l with|k::t=>if p k=true then oG r t else false|[]=>false:=by
 rw[oG];cases l with
 |nil=>simp[vY]
 | cons k t=>
   cases h:p k
   ·have e:vY p 0 0 (k::t)=(0,k::t):=by rw[vY,if_neg (by simp[h])]
    rw[e];simp[h]
   ·have e:vY p 0 0 (k::t)=(1,t):=by rw[vY,if_pos ⟨h,.inl rfl⟩,aCq p 0 (by decide)]
    rw[e];simp[h]
theorem IA(l:List T):oG [] l=decide (l.length=0):=rfl
def RF(s:List UInt8)(rows:List ((T→Bool)×Int)):Prop:=∀l,gQ s l=oG rows l
theorem XL:RF [] []:=fun l=>by rw[sR,IA]
theorem XK{rows:List ((T→Bool)×Int)}(c:UInt8)(h:RF [] rows):RF [c] ((isT (c.toNat:Int),0)::rows):=fun l=>by
 rw[IR,PW];cases l with
 |nil=>rfl
 |cons k t=>simp only[h t]
theorem aGj{d:UInt8}{s:List UInt8}{rows:List ((T→Bool)×Int)}(c:UInt8)(h1:d≠42)(h2:d≠63)(h:RF (d::s) rows):RF (c::d::s) ((isT (c.toNat:Int),0)::rows):=fun l=>by
 rw[IQ h1 h2,PW];cases l with
 |nil=>rfl
 |cons k t=>simp only[h t]
theorem IP{t k:T}(h:Sh t)(hk:k∈t.kids):Sh k:=by
 cases h with
 |mk _ _ _ _ h=>exact h k hk
theorem aGc{t:T}(h:Sh t):NQ t.op:=by cases h;assumption
theorem aA8{t:T}(h:Sh t):t.s.size≤4000:=by cases h;assumption
theorem aD8:∀{t:T},Sh t→Sh' t:=fun{t}=>T.aH6 (p:=fun t=>Sh t→Sh' t) (fun t ih h=>.mk (by have:=aA8 h;omega) fun k hk=>ih k hk (IP h hk)) t
theorem aGi{t:T}(d:t.op=19)(h:pH t=true):∃x y z,t.kids=[x,y,z]:=by
 have e2:eQ t=⟨#[66,67,89]⟩:=by
  unfold eQ
  (repeat first|rw[if_pos (by omega)]|rw[if_neg (by omega)])
 unfold pH at h;rw[if_neg (by omega),e2,decide_eq_true (by decide),eJ,show bl ⟨#[66,67,89]⟩=[66,67,89]from rfl,aGj 66 (by decide) (by decide) (aGj 67 (by decide) (by decide) (XK 89 XL))]at h;exact aIn (a:=isT 66) (b:=isT 67) (c:=isT 89) h
theorem aDh{t:T}(a:t.op=53)(h:pH t=true):∃x,t.kids=[x]:=by
 have e2:eQ t=⟨#[99]⟩:=by
  unfold eQ
  (repeat rw[if_neg (by omega)])
  unfold vL
  (repeat first|rw[if_pos (by omega)]|rw[if_neg (by omega)])
 unfold pH at h;rw[if_neg (by omega),e2,decide_eq_true (by decide),eJ,show bl ⟨#[99]⟩=[99]from rfl,XK 99 XL,PW]at h;match hk:t.kids with
 |[]=>rw[hk]at h;simp at h
 |[x]=>exact⟨x,rfl⟩
 | x::y::r=>
   rw[hk]at h;simp only[IA]at h;split at h
   ·simp at h
   ·cases h
theorem TJ{t x y z:T}(h:t.op=19)(hk:t.kids=[x,y,z]):pV t=(decide (y.op≠7)||decide (z.op≠7)):=by
 unfold pV;rw[if_pos h,if_neg (by omega),hk,eX]
theorem TH{t x:T}(h:t.op=53)(hk:t.kids=[x]):pV t=chB x:=by
 unfold pV;rw[if_neg (by omega),if_pos h,hk,eJ]
theorem DI{c:Prop}[Decidable c]{a b:ByteArray}(ha:a.size≤1000)(hb:b.size≤1000):(if c then a else b).size≤1000:=by split<;>assumption
theorem aB4(t:T)(c:UInt8):(xD t++⟨#[c]⟩).size≤1000:=by
 rw[jQ,HU];show 1+1≤1000
 decide
theorem PM(t:T):(eQ t).size≤1000:=by
 have h2:(xI t).size≤1000:=by
  unfold xI
  (repeat' first|exact aB4 t _|apply DI|decide)
 have h3:(vL t).size≤1000:=by
  unfold vL
  (repeat' first|exact h2|apply DI|decide)
 unfold eQ
 (repeat' first|exact h3|apply DI|decide)
attribute [local irreducible] eF eQ iD pH pV raB gQ pP chB G GC GQ GA dV Calls IntKind.wrap Int.decLt Int.decLe
theorem UU:∀(n:Nat),n≤100000→∀(t:T) (u:Value) (spine:Bool) (w:World) (μ:Mem),MOk μ w→KR μ t.kids u→t.size≤n→Sh t→
 aO 15 #[.agg (dG t u).toArray,.bool spine] w (.bool (raB t spine)):=by
 intro n;induction n with
 |zero=>intro _ t u spine w μ hμ hk hn;exact absurd hn (by rw[T.size_eq];omega)
 | succ n ih=>
   intro bg t u spine w μ hμ hk hn ak;have ho:=hk.one;have a7:=aGc ak;unfold NQ at a7;have bc:=aA8 ak;have ar:∀k∈t.kids,T.size k≤100000∧k.s.size≤65536:=fun k hk=>by obtain⟨i,hi⟩:=List.mem_iff_getElem?.1 hk;have h1:=T.dX hi;have h2:=aA8 (IP ak hk);exact⟨by omega,by omega⟩
   have ao:∀k∈t.kids,Sh' k:=fun k hk=>aD8 (IP ak hk);have hlen:=tW t;have az:=PM t;obtain⟨A,c,rfl,bh,r⟩:=hk.form;have c2:=fun w μc hw (hle:MLe μ μc)=>IX t _ w μc hw (hk.mono hle) (by omega) (by omega);have c3:=fun w μc hw (hle:MLe μ μc)=>tQ t _ w μc hw (hk.mono hle) (by omega) (by omega);have c4:=fun w μc hw (hle:MLe μ μc)=>PL t _ w μc hw (hk.mono hle);have c5:=fun w μc hw (hle:MLe μ μc)=>XH (eQ t) az t.kids A t.kids.length c w μc hw (hk.mono hle) rfl (by omega) ar;have c6:=fun w μc hw (hle:MLe μ μc)=>DO t.kids A t.kids.length c w μc hw (hk.mono hle) rfl (by omega) ar;refine aQ Tryz.func15 rfl Tryz.ntmps15 (by simp) hμ ?_;by_cases h1:eF t=true∧¬(iD t=true∧t.n=1∧spine=false)
   ·obtain⟨hf,hl⟩:=h1;rw[hf]at c2;try repeat' (first|((with_reducible show GC _ _ (Code.seq (Code.seq (Code.region 1 _ _) _) _) _ _ _ _);(apply dE))|refine KZ ?_|refine NB fun b=>?_)
    refine gcs (fK (ι:=Unit) (fun _=>True) (fun _=>μ) (fun _=>[(1,.bool spine),(2,.pointer (some ⟨b,0,none⟩))]) (fun _=>[.inl ⟨b,25,6,idx 0 (dG t (.slice A t.kids.length c))⟩]) ?_ ?_)
    ·try repeat' (first|refine KO ?_|refine K2 28 c2 ?_|refine K2 29 c3 ?_|refine KZ ?_|(refine KB ?_ ?_<;>intro hp))
     all_goals try(exfalso;apply hl;refine⟨?_,?_,?_⟩<;>assumption)
     all_goals exact J1 () trivial
    intro _ _;try repeat' (first|((with_reducible show GC _ _ (Code.seq (Code.seq (Code.region 4 _ _) _) _) _ _ _ _);(apply dE))|refine KZ ?_)
    refine gcs (fK (ι:=Unit) (fun _=>True) (fun _=>μ) (fun _=>[(5,.bool (pH t)),(1,.bool spine),(2,.pointer (some ⟨b,0,none⟩))]) (fun _=>[.inl ⟨b,25,6,idx 0 (dG t (.slice A t.kids.length c))⟩]) ?_ ?_)
    ·by_cases a6:t.op=36
     ·have hg:pH t=pP iX t.kids:=by unfold pH;rw[if_pos a6]
      rw[hg];try repeat' (first|refine KO ?_|refine K2 30 c6 ?_|refine KZ ?_)
      all_goals exact J1 () trivial
     ·have hg:pH t=(decide (eQ t≠⟨#[33]⟩)&&gQ (bl (eQ t)) t.kids):=by unfold pH;rw[if_neg a6]
      generalize hB:pH t=rb at hg⊢;generalize hR:gQ (bl (eQ t)) t.kids=rp at hg c5;by_cases hK:eQ t=⟨#[33]⟩
      ·rw[hK]at c4 hg;simp at hg;subst hg;try repeat' (first|refine KO ?_|refine K2 31 c4 ?_|refine KZ ?_)
       all_goals exact J1 () trivial
      ·rw[decide_eq_true hK,eJ]at hg;subst hg;generalize eQ t=ks at hK c4 c5;try repeat' (first|refine KO ?_|refine K2 31 c4 ?_|refine K2 32 c5 ?_|refine KZ ?_)
       all_goals exact J1 () trivial
    intro _ _;cases af:pH t
    ·have hR:raB t spine=false:=yP fun h=>by
      cases h with
      |mk _ _ h2 _=>unfold mI at h2;rw[af]at h2;cases h2
     rw[hR];try repeat' (refine KZ ?_)
     all_goals exact bL rfl rfl rfl
    cases hex:pV t
    ·have hR:raB t spine=false:=yP fun h=>by
      cases h with
      |mk _ _ h2 _=>unfold mI at h2;rw[hex,fV]at h2;cases h2
     rw[hR];by_cases al:t.op=19
     ·obtain⟨x,y,z,o⟩:=aGi al af;obtain⟨ad1,x1,rfl,ai,an,ah⟩:=r 1 y (by rw[o];rfl);obtain⟨ad2,x2,e2,aq,aw,ay⟩:=r 2 z (by rw[o];rfl);cases e2;rw[TJ al o]at hex;have h3:t.kids.length=3:=by rw[o];rfl
      simp at hex;try repeat' (first|refine KO ?_|(refine KV (b:=by first|exact U1 1|exact U1 2|exact U4 ai|exact U4 aq) (c:=?_))|refine KZ ?_)
      all_goals exact bL rfl rfl rfl
     ·by_cases v:t.op=53
      ·obtain⟨x,hx⟩:=aDh v af;obtain⟨ad1,x1,rfl,ai,an,ah⟩:=r 0 x (by rw[hx];rfl);rw[TH v hx]at hex;have h3:t.kids.length=1:=by rw[hx];rfl
       have av:=T.dX (t:=t) (i:=0) (k:=x) (by rw[hx];rfl);have c7:=fun w μc hw (hle:MLe μ μc)=>zI 100000 (aP _) x _ w μc hw (ah.mono hle) (by omega) (ao x (by rw[hx];exact .head _));rw[hex]at c7;try repeat' (first|refine KO ?_|((with_reducible apply C1);exact rfl;exact EN;exact fun w μc hw g=>c7 w μc hw g.le)|(refine KV (b:=by first|exact U1 0|exact U4 ai) (c:=?_))|refine KZ ?_)
       all_goals exact bL rfl rfl rfl
      ·rw[yD al v]at hex;cases hex
    have ba:mI t=true:=by unfold mI;rw[af,hex];rfl
    refine fK (ι:=Unit) (fun _=>True) (fun _=>μ) (fun _=>[(1,.bool spine),(2,.pointer (some ⟨b,0,none⟩))]) (fun _=>[.inl ⟨b,25,6,idx 0 (dG t (.slice A t.kids.length c))⟩]) ?_ ?_
    ·by_cases al:t.op=19
     ·obtain⟨x,y,z,o⟩:=aGi al af;obtain⟨ad1,x1,rfl,ai,an,ah⟩:=r 1 y (by rw[o];rfl);obtain⟨ad2,x2,e2,aq,aw,ay⟩:=r 2 z (by rw[o];rfl);cases e2;rw[TJ al o]at hex;have h3:t.kids.length=3:=by rw[o];rfl
      simp at hex;try repeat' (first|refine KO ?_|(refine KV (b:=by first|exact U1 1|exact U1 2|exact U4 ai|exact U4 aq) (c:=?_))|refine KZ ?_|(refine KB ?_ ?_<;>intro hp))
      all_goals exact J1 () trivial
     ·by_cases v:t.op=53
      ·obtain⟨x,hx⟩:=aDh v af;obtain⟨ad1,x1,rfl,ai,an,ah⟩:=r 0 x (by rw[hx];rfl);rw[TH v hx]at hex;have h3:t.kids.length=1:=by rw[hx];rfl
       have av:=T.dX (t:=t) (i:=0) (k:=x) (by rw[hx];rfl);have c7:=fun w μc hw (hle:MLe μ μc)=>zI 100000 (aP _) x _ w μc hw (ah.mono hle) (by omega) (ao x (by rw[hx];exact .head _));rw[hex]at c7;try repeat' (first|refine KO ?_|((with_reducible apply C1);exact rfl;exact EN;exact fun w μc hw g=>c7 w μc hw g.le)|(refine KV (b:=by first|exact U1 0|exact U4 ai) (c:=?_))|refine KZ ?_)
       all_goals exact J1 () trivial
      ·try repeat' (refine KZ ?_)
       all_goals exact J1 () trivial
    intro _ _;try repeat' (refine KZ ?_)
    refine dH (ι:=Nat) (fun i=>i≤t.kids.length∧∀(j:Nat) (k:T),j<i→t.kids[j]? =some k→RA k (pE t j k spine)) (fun i=>t.kids.length-i) (fun _=>μ) (fun i=>[(7,.int .i64 i),(1,.bool spine),(2,.pointer (some ⟨b,0,none⟩))]) (fun _=>[.inl ⟨b,25,6,idx 0 (dG t (.slice A t.kids.length c))⟩]) 0 ⟨by omega,fun j _ h=>absurd h (by omega)⟩ (fun a w hs=>J5 hs) ?_;rintro i ⟨hi,ax⟩;by_cases a8:i<t.kids.length
    ·have ae:t.kids[i]? =some t.kids[i]:=aI a8;generalize t.kids[i]=k at ae;obtain⟨ad,x,rfl,hm,bf,aj⟩:=r i k ae;have av:=T.dX ae;have aa:=IP ak (aZ ae);have bb:=aA8 aa;have ck:=fun w μc hw (hle:MLe μ μc)=>tQ k _ w μc hw (aj.mono hle) (by omega) (by omega);have q:RA k (pE t i k spine)→∀(j:Nat) (k:T),j<i+1→t.kids[j]? =some k→RA k (pE t j k spine):=fun h j k' hj au=>by
      rcases jV j i with h1|h1
      ·exact ax j k' h1 au
      ·obtain rfl:j=i:=by omega
       rw[ae]at au;cases au;exact h
     by_cases a1:i=0
     ·subst a1;by_cases v:t.op=53
      ·skip
       have l:pE t 0 k spine=true:=by simp[pE,v]
       have d:=fun w μc hw (hle:MLe μ μc)=>ih (by omega) k x true w μc hw (aj.mono hle) (by omega) aa;cases p:raB k true
       ·have hR:raB t spine=false:=yP fun h=>qO p (by cases h with|mk _ _ _ h4=>exact l▸h4 0 k ae);rw[hR];rw[p]at d;try repeat' (first|refine KO ?_|refine K2 15 d ?_|(refine KV (b:=by first|exact U1 0|exact U4 hm) (c:=?_))|refine KZ ?_)
        all_goals exact bL rfl rfl rfl
       ·have ab:=q (by rw[l];exact sS p);rw[p]at d;try repeat' (first|refine KO ?_|refine K2 15 d ?_|(refine KV (b:=by first|exact U1 0|exact U4 hm) (c:=?_))|refine KZ ?_)
        all_goals exact J2 (0+1) ⟨by omega,ab⟩ (by omega)
      ·cases spine
       ·skip
        have l:pE t 0 k false=false:=by simp[pE,v]
        have d:=fun w μc hw (hle:MLe μ μc)=>ih (by omega) k x false w μc hw (aj.mono hle) (by omega) aa;cases p:raB k false
        ·have hR:raB t false=false:=yP fun h=>qO p (by cases h with|mk _ _ _ h4=>exact l▸h4 0 k ae);rw[hR];rw[p]at d;try repeat' (first|refine KO ?_|refine K2 15 d ?_|(refine KV (b:=by first|exact U1 0|exact U4 hm) (c:=?_))|refine KZ ?_)
         all_goals exact bL rfl rfl rfl
        ·have ab:=q (by rw[l];exact sS p);rw[p]at d;try repeat' (first|refine KO ?_|refine K2 15 d ?_|(refine KV (b:=by first|exact U1 0|exact U4 hm) (c:=?_))|refine KZ ?_)
         all_goals exact J2 (0+1) ⟨by omega,ab⟩ (by omega)
       ·cases ag:iD t
        ·rw[ag]at c3;have l:pE t 0 k true=false:=by simp[pE,v,ag]
         have d:=fun w μc hw (hle:MLe μ μc)=>ih (by omega) k x false w μc hw (aj.mono hle) (by omega) aa;cases p:raB k false
         ·have hR:raB t true=false:=yP fun h=>qO p (by cases h with|mk _ _ _ h4=>exact l▸h4 0 k ae);rw[hR];rw[p]at d;try repeat' (first|refine KO ?_|refine K2 29 c3 ?_|refine K2 15 d ?_|(refine KV (b:=by first|exact U1 0|exact U4 hm) (c:=?_))|refine KZ ?_)
          all_goals exact bL rfl rfl rfl
         ·have ab:=q (by rw[l];exact sS p);rw[p]at d;try repeat' (first|refine KO ?_|refine K2 29 c3 ?_|refine K2 15 d ?_|(refine KV (b:=by first|exact U1 0|exact U4 hm) (c:=?_))|refine KZ ?_)
          all_goals exact J2 (0+1) ⟨by omega,ab⟩ (by omega)
        ·rw[ag]at c3;cases ap:iD k
         ·rw[ap]at ck;have l:pE t 0 k true=false:=by simp[pE,v,ag,ap]
          have d:=fun w μc hw (hle:MLe μ μc)=>ih (by omega) k x false w μc hw (aj.mono hle) (by omega) aa;cases p:raB k false
          ·have hR:raB t true=false:=yP fun h=>qO p (by cases h with|mk _ _ _ h4=>exact l▸h4 0 k ae);rw[hR];rw[p]at d;try repeat' (first|refine KO ?_|((with_reducible apply F1 29);exact rfl;exact EN;first|(exact fun w μc hw g=>ck w μc hw g.le)|(exact fun w μc hw g=>c3 w μc hw g.le))|refine K2 15 d ?_|(refine KV (b:=by first|exact U1 0|exact U4 hm) (c:=?_))|refine KZ ?_)
           all_goals exact bL rfl rfl rfl
          ·have ab:=q (by rw[l];exact sS p);rw[p]at d;try repeat' (first|refine KO ?_|((with_reducible apply F1 29);exact rfl;exact EN;first|(exact fun w μc hw g=>ck w μc hw g.le)|(exact fun w μc hw g=>c3 w μc hw g.le))|refine K2 15 d ?_|(refine KV (b:=by first|exact U1 0|exact U4 hm) (c:=?_))|refine KZ ?_)
           all_goals exact J2 (0+1) ⟨by omega,ab⟩ (by omega)
         ·rw[ap]at ck;have l:pE t 0 k true=true:=by simp[pE,v,ag,ap]
          have d:=fun w μc hw (hle:MLe μ μc)=>ih (by omega) k x true w μc hw (aj.mono hle) (by omega) aa;cases p:raB k true
          ·have hR:raB t true=false:=yP fun h=>qO p (by cases h with|mk _ _ _ h4=>exact l▸h4 0 k ae);rw[hR];rw[p]at d;try repeat' (first|refine KO ?_|((with_reducible apply F1 29);exact rfl;exact EN;first|(exact fun w μc hw g=>ck w μc hw g.le)|(exact fun w μc hw g=>c3 w μc hw g.le))|refine K2 15 d ?_|(refine KV (b:=by first|exact U1 0|exact U4 hm) (c:=?_))|refine KZ ?_)
           all_goals exact bL rfl rfl rfl
          ·have ab:=q (by rw[l];exact sS p);rw[p]at d;try repeat' (first|refine KO ?_|((with_reducible apply F1 29);exact rfl;exact EN;first|(exact fun w μc hw g=>ck w μc hw g.le)|(exact fun w μc hw g=>c3 w μc hw g.le))|refine K2 15 d ?_|(refine KV (b:=by first|exact U1 0|exact U4 hm) (c:=?_))|refine KZ ?_)
           all_goals exact J2 (0+1) ⟨by omega,ab⟩ (by omega)
     ·skip
      have l:pE t i k spine=false:=by simp[pE,a1]
      have d:=fun w μc hw (hle:MLe μ μc)=>ih (by omega) k x false w μc hw (aj.mono hle) (by omega) aa;cases p:raB k false
      ·have hR:raB t spine=false:=yP fun h=>qO p (by cases h with|mk _ _ _ h4=>exact l▸h4 i k ae);rw[hR];rw[p]at d;try repeat' (first|refine KO ?_|refine K2 15 d ?_|(refine KV (b:=by first|exact U1 i|exact U4 hm) (c:=?_))|refine KZ ?_)
       all_goals exact bL rfl rfl rfl
      ·have ab:=q (by rw[l];exact sS p);rw[p]at d;try repeat' (first|refine KO ?_|refine K2 15 d ?_|(refine KV (b:=by first|exact U1 i|exact U4 hm) (c:=?_))|refine KZ ?_)
       all_goals exact J2 (i+1) ⟨by omega,ab⟩ (by omega)
    ·have hR:raB t spine=true:=aDi (.mk hf hl ba fun j k hj=>ax j k (by have:=(List.getElem?_eq_some_iff.1 hj).1;omega) hj);rw[hR];try repeat' (refine KZ ?_)
     all_goals exact bL rfl rfl rfl
   ·have hR:raB t spine=false:=yP fun h=>by
     cases h with
     |mk h2 h3 _ _=>exact h1 ⟨h2,h3⟩
    rw[hR];try repeat' (first|((with_reducible show GC _ _ (Code.seq (Code.region 3 _ _) _) _ _ _ _);(apply dE))|refine KO ?_|refine K2 28 c2 ?_|refine K2 29 c3 ?_|refine KZ ?_|refine NB fun b=>?_|(refine KB ?_ ?_<;>intro hp))
    all_goals first|exact bL rfl rfl rfl|(exfalso;clear c2 c3 c4 c5 c6 hk r hμ ar ao ak ih;simp_all;done)
theorem LH(t:T)(u:Value)(w:World)(μ:Mem)(hμ:MOk μ w)(hk:KR μ t.kids u)(hs:t.size≤100000)(c:Sh t):
 aO 7 #[.agg (dG t u).toArray] w (.bool (decide (t.depth≤200)&&raB t false)):=by
 have ho:=hk.one;refine aQ Tryz.func7 rfl Tryz.ntmps7 (by simp) hμ ?_;try repeat' (first|refine KO ?_|refine K2 14 (fun w μc hw a=>LK 100000 (aP _) t _ w μc hw hs ⟨u,rfl,hk.mono a⟩) ?_|refine K2 15 (fun w μc hw a=>UU 100000 (aP _) t u false w μc hw (hk.mono a) hs c) ?_|refine KZ ?_|refine NB fun b=>?_|(refine KB ?_ ?_<;>intro hp))
 all_goals(refine bL rfl rfl ?_;simp_all;try omega)
end
end Go.Proofs.YtknieidhopbngaaGreat
namespace Go.Vcg
open Go.RowKit
section
variable{P:Program}{μ:Mem}{l:bG}{L:List Bk}{ds:Option Nat}{ty:TypeId}{pos:String}{af:Array Edge}{gd:Option (Nat×Bool)}
theorem AS{p q r:Operand}{t:TypeId}{b b' :ByteArray}{j i:Int}(k m:Nat)(he:b.extract k m=b')(ht:P.underlying t=some .string)(c:ev l p=some (.string b))(d:ev l q=some (.int .i64 j))(g:j=(k:Int))(a:ev l r=some (.int .i64 i))(hi:i=(m:Int))(hk:k≤m)(hm:m≤b.size):
 Val P μ l L ⟨ds,.slice t p (some q) (some r) none,ty,pos,af,gd⟩ (.string b'):=by
 rw[←he];exact cA k m ht c d g a hi hk hm
end
end Go.Vcg
namespace Go.Proofs.YtknieidhopbngaaGreat
section
open Go.RowKit Go.Vcg
theorem aHo{src:ByteArray}{a:Int}{x:ByteArray}(h:AtS src a x):∃k:Nat,a=(k:Int)∧k+x.size≤src.size∧src.extract k (k+x.size)=x:=by
 obtain⟨p,q,h1,rfl⟩:=h;have h2:src.size=p.length+ (x.size+q.length):=by have:=congrArg List.length h1;rw[dU,aB,aB,dU]at this;omega
 refine⟨p.length,rfl,by omega,wF ?_⟩;rw[oU,h1,bR,List.drop_left,show p.length+x.size-p.length=x.size by omega,←dU x,List.take_left]
attribute [local irreducible] G GC GQ GA dV Calls IntKind.wrap Int.decLt Int.decLe
theorem LU{src:ByteArray}(hs:src.size≤4000):∀(n:Nat),n≤100000→∀(t:T) (u:Value) (sp:Bool) (w:World) (μ:Mem),MOk μ w→KR μ t.kids u→t.size≤n→Gt src t sp→
 aO 8 #[.agg (dG t u).toArray,.string src] w (.bool true):=by
 intro n;induction n with
 |zero=>intro _ t u sp w μ hμ hk hn;exact absurd hn (by rw[T.size_eq];omega)
 | succ n ih=>
   intro ab t u sp w μ hμ hk hn hg;have hlen:=T.EE t;have ag:=hg.at';have l:=hg.pn;have ho:=hk.one;obtain⟨A,c,rfl,ae,g⟩:=hk.form;have r:∀(i:Nat) (k:T),t.kids[i]? =some k→∃s2,Gt src k s2:=fun i k hi=>by
    cases hg with
    |mk _ _ _ _ hr=>exact⟨_,hr i k hi⟩
   refine aQ Tryz.func8 rfl Tryz.ntmps8 (by simp) hμ ?_;try repeat' (first|((with_reducible show GC _ _ (Code.seq (Code.seq (Code.region 3 _ _) _) _) _ _ _ _);(apply dE))|refine KZ ?_|refine NB fun b=>?_)
   all_goals try(exfalso;omega)
   refine fK (ι:=Unit) (fun _=>True) (fun _=>μ) (fun _=>[(1,.string src),(2,.pointer (some ⟨b,0,none⟩))]) (fun _=>[.inl ⟨b,25,6,idx 0 (dG t (.slice A t.kids.length c))⟩]) ?_ ?_
   ·by_cases y:t.op=34
    ·obtain⟨k,h,q,p⟩:=aHo (l.nm y);try repeat' (refine KZ ?_)
     refine aW 29 _ (by kernel_rfl) rfl (aK aU) ?_;all_goals(refine D1 0 ?_;refine DD 1 ?_;refine D1 2 ?_;refine DD 3 ?_)
     all_goals(try(refine D7 4 ?_;(repeat' (refine KO ?_))))
     all_goals(refine DD 4 ?_;refine D1 5 ?_;refine D1 6 ?_;refine DD 7 ?_;refine DD 8 ?_;refine D1 9 ?_;refine DD 10 ?_;refine D1 11 ?_;refine D1 12 ?_;refine DD 13 ?_)
     all_goals(try(refine D7 14 ?_;(repeat' (refine KO ?_))))
     all_goals(refine DD 14 ?_;refine D1 15 ?_;refine DD 16 ?_;refine D1 17 ?_;refine DD 18 ?_;refine D1 19 ?_;refine DD 20 ?_;refine D1 21 ?_;refine DD 22 ?_;refine D2 23 rfl (by((with_reducible apply AS k (k+t.s.size) p);(iterate 3 exact rfl);exact h;exact rfl;(rw[h];exact(Int.natCast_add _ _).symm);exact Nat.le_add_right _ _;exact q)) ?_;refine D1 24 ?_;refine DD 25 ?_;refine D1 26 ?_;refine DD 27 ?_;refine DD 28 ?_;refine D8 ?_)
     all_goals try repeat' (refine KZ ?_)
     all_goals refine J1 () trivial
    ·try repeat' (refine KZ ?_)
     refine aW 29 _ (by kernel_rfl) rfl (aK aU) ?_;all_goals(refine D1 0 ?_;refine DD 1 ?_;refine D1 2 ?_;refine DD 3 ?_)
     all_goals(try(refine D7 4 ?_;(repeat' (refine KO ?_))))
     all_goals(refine DD 4 ?_;refine D1 5 ?_;refine D1 6 ?_;refine D1 7 ?_;refine D1 8 ?_;refine D1 9 ?_;refine D1 10 ?_;refine D1 11 ?_;refine D1 12 ?_;refine DD 13 ?_;(try refine D7 14 ?_);refine DD 14 ?_;refine D1 15 ?_;refine D1 16 ?_;refine D1 17 ?_;refine D1 18 ?_;refine D1 19 ?_;refine D1 20 ?_;refine D1 21 ?_;refine D1 22 ?_;refine D1 23 ?_;refine D1 24 ?_;refine D1 25 ?_;refine D1 26 ?_;refine DD 27 ?_;refine DD 28 ?_;refine D8 ?_)
     all_goals try repeat' (refine KZ ?_)
     all_goals refine J1 () trivial
   rintro⟨⟩-;try dsimp only
   try repeat' (refine KZ ?_)
   refine dH (ι:=Nat) (fun i=>i≤t.kids.length) (fun i=>t.kids.length-i) (fun _=>μ) (fun i=>[(5,.int .i64 i),(1,.string src),(2,.pointer (some ⟨b,0,none⟩))]) (fun _=>[.inl ⟨b,25,6,idx 0 (dG t (.slice A t.kids.length c))⟩]) 0 (cU _) (fun a w hs=>J5 hs) ?_;intro i af;by_cases d:i<t.kids.length
   ·obtain⟨ad,x,rfl,hm,aa,o⟩:=g i _ (aI d);have z:=T.dX (aI d);obtain⟨s2,v⟩:=r i _ (aI d);try repeat' (first|refine KO ?_|((with_reducible apply C1);exact rfl;exact EN;exact fun w μc hw j=>ih (by omega) _ x s2 w μc hw (o.mono j.le) (by omega) v)|(refine KV (b:=by first|exact U1 i|exact U4 hm) (c:=?_))|refine KZ ?_)
    all_goals try(exfalso;omega)
    all_goals exact J2 (i+1) (by omega) (by omega)
   ·try repeat' (refine KZ ?_)
    all_goals try(exfalso;omega)
    all_goals exact bL rfl rfl rfl
theorem MV(u:Value)(w:World)(μ:Mem)(hμ:MOk μ w)(hk:KR μ [] u):
 aO 6 #[.agg (dG T.zero u).toArray,.agg (dG T.zero (.slice none 0 0)).toArray] w (.bool true):=by
 obtain⟨A,c,rfl,-,-⟩:=hk.form;refine aQ Tryz.func6 rfl Tryz.ntmps6 (by simp) hμ ?_;try repeat' (first|(with_reducible apply dP 2)|refine KZ ?_|refine NB fun b=>?_)
 all_goals exact bL rfl rfl rfl
end
section
open Go.RowKit Go.Vcg
abbrev exE(x:ByteArray):TkE:=iH (mW (bl x)).1
abbrev exC(x:ByteArray):T×RdS:=gN (exE x) (sB (exE x) (nZ (exE x))) true rs0
theorem aDt{x:ByteArray}(a:(mW (bl x)).2.2=0):xN x=uU (exE x) (exC x).1 (exC x).2:=by
 unfold xN;rw[if_neg (fun h=>h a)];rfl
theorem WW{E:TkE}{n:T}{s:RdS}(h:s.e≠0):uU E n s=(T.zero,s.at',s.e):=by
 unfold uU;have h1:(if s.e=0∧(aJ E s).k≠0 then iE E s else s)=s:=if_neg fun g=>h g.1;rw[h1];exact if_pos h
theorem aA6{E:TkE}{n:T}{s:RdS}(h:s.e=0)(hk:(aJ E s).k=0)(hd:BX n≤200):uU E n s=(n,0,0):=by
 unfold uU;have h1:(if s.e=0∧(aJ E s).k≠0 then iE E s else s)=s:=if_neg fun g=>g.2 hk;rw[h1];exact(if_neg fun g=>g h).trans (if_neg (by omega))
def tr1:T:=T.mk 44 0 0 0 ⟨#[43]⟩ [T.mk 34 0 0 0 ⟨#[120]⟩ [],T.mk 30 4 1 0 empty []]
theorem aI2:(exC ⟨#[120,32,43,32,49]⟩).1=tr1:=by kernel_rfl
theorem aI1:(exC ⟨#[120,32,43,32,49]⟩).2.e=0:=by kernel_rfl
theorem aI0:(aJ (exE ⟨#[120,32,43,32,49]⟩) (exC ⟨#[120,32,43,32,49]⟩).2).k=0:=by kernel_rfl
theorem aIz:(mW (bl ⟨#[120,32,43,32,49]⟩)).2.2=0:=by kernel_rfl
theorem ex1:xN ⟨#[120,32,43,32,49]⟩=(tr1,0,0):=by
 rw[aDt aIz,aI2];refine aA6 aI1 aI0 ?_;rw[JU];unfold tr1;simp[T.vZ,T.kids,T.rL]
theorem ex2:xN ⟨#[97,32,63,63,32,98,32,124,124,32,99]⟩=(T.zero,7,23):=by kernel_rfl
theorem ex4:xN ⟨#[40,123,97,32,61,32,49,125,41]⟩=(T.zero,4,23):=by kernel_rfl
def n3:T:=T.mk 37 0 0 0 empty [T.mk 34 1 0 0 ⟨#[97]⟩ [],T.mk 30 4 1 0 empty []]
def s03:RdS:=⟨0,false,0,0,0,0,-1,0,0⟩
def s13:RdS:=⟨5,false,0,0,3,1,-1,0,0⟩
abbrev X3:ByteArray:=⟨#[91,97,44,32,49,93,32,61,32,99]⟩
theorem aIy:(mW (bl X3)).2.2=0:=by kernel_rfl
theorem aIx:zH (exE X3) (sB (exE X3) (8*(exE X3).ts.length+7)) true s03=(n3,s13):=by kernel_rfl
theorem aIw:pL (aJ (exE X3) s13)=true:=by kernel_rfl
theorem aIv:(aJ (exE X3) s13).s=⟨#[61]⟩:=by kernel_rfl
theorem aIu:wE (exE X3) 0 s13=false:=by kernel_rfl
theorem aIt:isR (exE X3) (iF (exE X3) 0 24 s13) ⟨#[44]⟩=false:=by kernel_rfl
theorem aIs:sJ (exE X3) s03=false:=by kernel_rfl
theorem aGo:(xY n3).2=24:=by
 have h:n3.size=3:=by unfold n3;simp[T.size_eq,T.kids]
 unfold xY;rw[h];show(elF 3 n3 1 false).2=24
 kernel_rfl
theorem ex3:xN X3=(T.zero,0,24):=by
 have h1:exC X3=bd (wZ (exE X3) (sB (exE X3) (8*(exE X3).ts.length+7)) true s03) (fun t s1=>oC (exE X3) (sB (exE X3) (nZ (exE X3))) true t s1):=rfl;have h2:(wZ (exE X3) (sB (exE X3) (8*(exE X3).ts.length+7)) true s03).2=iF (exE X3) 0 24 s13:=by
  unfold wZ;rw[if_neg (by simp[s03]),if_neg (by rw[aIs];decide),aIx];unfold bd;dsimp only;rw[if_pos ⟨rfl,aIw⟩,if_pos aIv];have h3:iY (exE X3) n3 (wE (exE X3) s03.i s13) s13=((xY n3).1,iF (exE X3) 0 24 s13):=by unfold iY;rw[if_neg (fun h=>h rfl),if_neg (by rw[show wE (exE X3) s03.i s13=false from aIu];decide),if_neg (by rw[aGo];decide),aGo];rfl
  rw[h3];dsimp only;rw[if_neg (nD (by decide))]
 have h4:(exC X3).2=iF (exE X3) 0 24 s13:=by rw[h1];unfold bd;rw[h2];unfold oC;dsimp only;rw[if_neg (show¬isR (exE X3) (iF (exE X3) 0 24 s13) ⟨#[44]⟩=true by rw[aIt];decide)]
 rw[aDt aIy,WW (by rw[h4];exact nD (by decide)),h4];rfl
def idS:ByteArray:=⟨#[97,98,99,100,101,102,103,104,105,106,107,108,109,110,111,112,113,114,115,116,117,118,119,120,121,122,65,66,67,68,69,70,71,72,73,74,75,76,77,78,79,80,81,82,83,84,85,86,87,88,89,90,48,49,50,51,52,53,54,55,56,57,95,36]⟩
def idN(n:Nat):Bool:=decide (FV n∨AN n)
theorem aFf:(List.range 256).all (fun n=>(bl idS).contains (UInt8.ofNat n)==idN n)=true:=by kernel_rfl
theorem aFe(c:UInt8):(bl idS).contains c=decide (FV c.toNat∨AN c.toNat):=by
 have h:=fY.1 aFf c.toNat (List.mem_range.2 c.toNat_lt);have h2:=eq_of_beq h;rw[UInt8.ofNat_toNat]at h2;exact h2
attribute [local irreducible] G GC GQ GA dV Calls IntKind.wrap Int.decLt Int.decLe
theorem FH(s:ByteArray)(hs:s.size≤65536)(w:World)(μ:Mem)(hμ:MOk μ w):
 aO 19 #[.string s] w (.string ⟨(BY (bl s)).toArray⟩):=by
 refine aQ Tryz.func19 rfl Tryz.ntmps19 (by simp) hμ ?_;try repeat' (refine KZ ?_)
 refine dH (ι:=Nat×ByteArray) (fun i=>i.1≤s.size∧bl i.2=BY ((bl s).take i.1)) (fun i=>s.size-i.1) (fun _=>μ) (fun i=>[(5,.int .i64 i.1),(4,.string i.2),(3,.string ⟨#[48,49,50,51,52,53,54,55,56,57,65,66,67,68,69,70]⟩),(0,.string s)]) (fun _=>[]) (0,⟨#[]⟩) ⟨by simp,rfl⟩ (fun a w hs=>J6 hs) ?_;rintro⟨i,T⟩ ⟨hi,p⟩;dsimp only at hi p⊢;have u:=NJ ((bl s).take i);rw[bZ,dU]at u;have j:= @WC (bl s) i;generalize r:BY ((bl s).take i)=out at p u j;by_cases aa:i<s.size
 ·obtain⟨c,q,o⟩:=NO aa;have v:=j q;have h0:=fQ s i;have h1:=fR s i;have hid:=aFe c;have l:bl ⟨#[37]⟩=[37]:=rfl;by_cases x:FV c.toNat∨AN c.toNat
  ·have hC:BI c=[c]:=by unfold BI;rw[if_pos x]
   rw[decide_eq_true x]at hid;have g:=JY q;have h:=g;have k:=g;try repeat' (first|refine KO ?_|((with_reducible apply F1 38);exact rfl;exact EN;(exact fun w μc hw y=>by rw[o];exact MI _ (by decide) c hid w μc hw))|(refine KV (b:=by first|exact U2 i|((with_reducible apply cA i (i+1));(iterate 5 exact rfl);(exact rfl);omega;(omega))|((with_reducible apply iG);exact rfl;exact rfl;(simp only[←dU,wG,p,l,g,h,k,aB,aF,aL];omega))) (c:=?_))|refine KZ ?_)
   exact J4 (i+1,T++s.extract i (i+1)) ⟨by dsimp only;omega,by dsimp only;rw[wG,p,g,v,hC]⟩ (by dsimp only;omega)
  ·rw[decide_eq_false x]at hid;have hc:c.toNat<256:=c.toNat_lt;have hC:BI c=[37,MH.getD (c.toNat/16) 0,MH.getD (c.toNat%16) 0]:=by unfold BI;rw[if_neg x]
   have hg:∀d,d<16→(bl ⟨#[48,49,50,51,52,53,54,55,56,57,65,66,67,68,69,70]⟩)[d]? =some (MH.getD d 0):=by
    intro d hd;show MH[d]? =some (MH.getD d 0)
    rw[cE,aI (show d<MH.length from hd)];rfl
   have g:=JY (hg (c.toNat/16) (by omega));have h:=JY (hg (c.toNat%16) (by omega));have k:=JY q;have z:(bAt s i).tdiv 16=((c.toNat/16:Nat):Int):=by rw[o];rfl
   have hr:(bAt s i).tmod 16=((c.toNat%16:Nat):Int):=by rw[o];rfl
   have ad: -9223372036854775808≤(bAt s i).tdiv 16∧(bAt s i).tdiv 16≤9223372036854775807:=by rw[z];omega
   try repeat' (first|refine KO ?_|((with_reducible apply F1 38);exact rfl;exact EN;(exact fun w μc hw y=>by rw[o];exact MI _ (by decide) c hid w μc hw))|(refine KV (b:=by exact U2 i) (c:=?_))|refine KZ ?_)
   refine aW 19 (_) (by kernel_rfl) rfl (by exact aH _) ?_;all_goals(refine DD 0 ?_;refine D2 1 rfl (by((with_reducible apply iG);exact rfl;exact rfl;(simp only[←dU,wG,p,l,g,h,k,aB,aF,aL];omega))) ?_;refine DD 2 ?_;refine DD 3 ?_;refine DD 4 ?_;refine DD 5 ?_;refine DD 6 ?_;refine DD 7 ?_;refine D2 8 rfl (by((with_reducible apply cA (b:=⟨#[48,49,50,51,52,53,54,55,56,57,65,66,67,68,69,70]⟩) (c.toNat/16) (c.toNat/16+1));(iterate 3 exact rfl);exact z;exact rfl;(rw[z];rfl);omega;(show _≤16;omega))) ?_;refine D2 9 rfl (by((with_reducible apply iG);exact rfl;exact rfl;(simp only[←dU,wG,p,l,g,h,k,aB,aF,aL];omega))) ?_;refine DD 10 ?_;refine DD 11 ?_;refine DD 12 ?_;refine DD 13 ?_;refine DD 14 ?_;refine DD 15 ?_;refine D2 16 rfl (by((with_reducible apply cA (b:=⟨#[48,49,50,51,52,53,54,55,56,57,65,66,67,68,69,70]⟩) (c.toNat%16) (c.toNat%16+1));(iterate 3 exact rfl);exact hr;exact rfl;(rw[hr];rfl);omega;(show _≤16;omega))) ?_;refine D2 17 rfl (by((with_reducible apply iG);exact rfl;exact rfl;(simp only[←dU,wG,p,l,g,h,k,aB,aF,aL];omega))) ?_;refine DD 18 ?_;refine D8 ?_)
   try repeat' (refine KZ ?_)
   exact J4 (i+1,((T++⟨#[37]⟩)++ByteArray.extract ⟨#[48,49,50,51,52,53,54,55,56,57,65,66,67,68,69,70]⟩ (c.toNat/16) (c.toNat/16+1))++ByteArray.extract ⟨#[48,49,50,51,52,53,54,55,56,57,65,66,67,68,69,70]⟩ (c.toNat%16) (c.toNat%16+1)) ⟨by dsimp only;omega,by dsimp only;rw[wG,wG,wG,p,l,g,h,v,hC];simp⟩ (by dsimp only;omega)
 ·have ab:T=⟨(BY (bl s)).toArray⟩:=wF (by rw[p,aHm,←r,dL (by rw[dU];omega)]);subst ab;try repeat' (refine KZ ?_)
  exact xS rfl (by exact aN rfl) rfl
end
end Go.Proofs.YtknieidhopbngaaGreat
