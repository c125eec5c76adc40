/- Equality of trees but for positions: package tree's and the reference's. -/
import Derived.Test.YtknieidhopbngaaGreatQac
import Derived.ProofKit
import Derived.OpenShut
import Derived.ShutString
import Derived.ChangeOld
import Derived.Deep.Slices
import Derived.Deep.Fields
import Derived.RangeFuncLeaves
import Derived.OwnWalkIn
import Derived.RangeFuncCalls
import Derived.OrdersIn
import Derived.Test.YtknieidhopbngaaGreatShelf
import Derived.KernelRfl
import Derived.Lib.LaidTab
set_option maxRecDepth 20000
set_option maxHeartbeats 2000000
namespace Go.Proofs.YtknieidhopbngaaGreat
open Go.RowKit Go.Vcg
inductive Sm:T→T→Prop
 |mk (a b:T) (h1:a.op=b.op) (h2:a.n=b.n) (h3:a.m=b.m) (h4:a.s=b.s) (h5:a.kids.length=b.kids.length) (h6:∀(i:Nat) (x y:T),a.kids[i]? =some x→b.kids[i]? =some y→Sm x y):Sm a b
def SmL(l m:List T):Prop:=l.length=m.length∧∀(i:Nat) (x y:T),l[i]? =some x→m[i]? =some y→Sm x y
noncomputable def dB (p:Prop):Bool:= @decide p (Classical.propDecidable p)
theorem aCu{p:Prop}(h:p):dB p=true:= @decide_eq_true p (Classical.propDecidable p) h
theorem aCv{p:Prop}(h:¬p):dB p=false:= @decide_eq_false p (Classical.propDecidable p) h
theorem TQ{p:Prop}(h:dB p=true):p:= @of_decide_eq_true p (Classical.propDecidable p) h
theorem aAf{p:Prop}(h:dB p=false):¬p:= @of_decide_eq_false p (Classical.propDecidable p) h
noncomputable def smB (a b:T):Bool:=dB (Sm a b)
noncomputable def aHu (l m:List T):Bool:=dB (SmL l m)
theorem T.aH6{p:T→Prop}(h:∀t:T,(∀k,k∈t.kids→p k)→p t)(t:T):p t:=by
 have key:∀(n:Nat) (t:T),t.size≤n→p t:=by
  intro n;induction n with
  |zero=>intro t ht;rw[T.size_eq]at ht;omega
  | succ n ih=>
    intro t ht;refine h t fun k hk=>ih k ?_;obtain⟨i,hi⟩:=List.mem_iff_getElem?.1 hk;have:=T.dX hi;omega
 exact key t.size t (aP _)
theorem tW(t:T):t.kids.length<t.size:=by
 rw[T.size_eq];have:∀l:List T,l.length≤(l.map T.size).sum:=fun l=>by
  induction l with
  |nil=>simp
  | cons x l ih=>
    have:=T.size_eq x;simp;omega
 have:=this t.kids;omega
attribute [local irreducible] smB aHu G GC GQ GA dV Calls IntKind.wrap Int.decLt Int.decLe
end Go.Proofs.YtknieidhopbngaaGreat
namespace Go.Vcg
section
open Go.ChangeShapes Go.WideShapes Go.ChangeAt Go.RowKit Go.Deep
def SR(w:World):Mem:=fun b=>w.heap[b]?
theorem YQ(w:World):MOk (SR w) w:=fun _ _ h=>h
theorem oM.aBw{w:World}{A:Addr}{v:Value}(h:w.cell? A=some v):oM (SR w) A v:=by
 unfold World.cell? at h;split at h
 ·rename_i c t f a;by_cases hs:A.spot.isSome
  ·simp[hs]at h
  ·simp[hs]at h;exact⟨c,t,f,a,by simpa using hs,h⟩
 ·cases h
end
section
open Go.RowKit
structure IH (F:Fence):Prop where
 fn:∀f,F.fn f
 depth:F.depth=none
 calls:∀{n:Nat} {P:Program} {f:FuncId} {args:Array Value} {w:World} {R:Ending→World→Prop},Calls P f args w R→CallsIn F n P f args w R
 rows:∀{n:Nat} {P:Program} {row:String} {args:Array Value} {w:World} {R:Value→World→Prop},Rows P row args w R→RowsIn F n P row args w R
theorem GY{n:Nat}{P:Program}{row:String}{args:Array Value}{w:World}{R:Value→World→Prop}(h:Rows P row args w R):RowsIn Fence.wide n P row args w R:=fun c cs _=>
 let ⟨v,w',r,s⟩:=h c cs
 ⟨v,w',r,stepsIn_wide.2 s⟩
theorem qS:IH Fence.wide:=⟨fun _=>trivial,rfl,fun h=>callsIn_wide.2 h,fun h=>GY h⟩
theorem AR(lr:Nat):IH (Fence.wide.inRound lr):=⟨fun _=>trivial,rfl,fun h=>CallsIn.inRound lr (callsIn_wide.2 h),fun{n} {_} {_} {_} {_} {_} h=>(GY (n:=n) h)⟩
def aAq(Q:Exit→Act→World→Prop):Prop:=∀a w,¬Q .outgrown a w
def wS(o:Oper):Bool:=match o.op with
 |.defer _=>false
 |_=>true
theorem tT{o:Oper}(h:wS o=true):∀c,o.op≠ .defer c:=fun c e=>by simp[wS,e]at h
def GI(P:Program)(F:Fence)(n:Nat)(X:Ctx)(ops:Array Oper)(Q:Exit→Act→World→Prop)(rest:List Oper)(μ:Mem)(l:bG)(L:List Bk):Prop:=
 ∀a w,St X μ l L a w→wpListIn F n P ops Q rest a w
def GCI(P:Program)(F:Fence)(n:Nat)(X:Ctx)(c:Code)(Q:Exit→Act→World→Prop)(μ:Mem)(l:bG)(L:List Bk):Prop:=
 ∀a w,St X μ l L a w→c.wpIn F n P Q a w
section
variable{P:Program}{F:Fence}{n:Nat}{X:Ctx}{ops:Array Oper}{Q:Exit→Act→World→Prop}{rest:List Oper}{μ:Mem}{l:bG}{L:List Bk}{a:Act}{w:World}{o:Oper}{d:Nat}
theorem aDm(b:IH F)(d:∀c,o.op≠ .defer c){K:Act→World→Prop}(h:o.wp P a w K Q):o.wpIn F n P a w K Q:=by
 refine⟨fun f _=>b.fn f,?_⟩;rw[Oper.semAt_plain F a.eval o d];unfold Oper.wp at h;have hd:∀k:Nat,F.depth.isSome=true→1≤k:=fun k e=>by rw[b.depth]at e;cases e
 generalize (execOp a.eval o).run P w=r at*;cases r with
 | ok nx w' =>
   cases nx<;>first
    |exact h
    |exact h.elim
    | (refine⟨hd _,b.calls (Calls.mono h fun e w'' he=>?_)⟩
       cases e<;>exact he)
    |exact⟨hd _,b.rows h⟩
 |halt x w' =>cases x<;>exact h
theorem wV(c:IH F)(hQ:aAq Q):∀(rest:List Oper),rest.all wS=true→∀(a:Act) (w:World),wpList P ops Q rest a w→wpListIn F n P ops Q rest a w
 |[],_,a,w,h=>h
 | o :: r, b,a,w,h=>by
   simp only[kQ,aM]at b;unfold wpList at h;unfold wpListIn;split
   ·rename_i hw;rw[if_pos hw]at h;rcases h with h|⟨_,a',w',h⟩
    ·have h2:=aDm (n:=n) c (tT b.1) h;refine⟨h2.1,?_⟩;have h3:=h2.2;revert h3;generalize (o.semAt F.round a.eval).run P w=res;intro h3;cases res with
     | ok nx w' =>
       cases nx<;>first
        |exact h3
        |exact wV c hQ r b.2 _ _ h3
        | (refine⟨h3.1,CallsIn.mono h3.2 fun e w'' he=>?_⟩
           cases e<;>first
            |exact he
            |exact wV c hQ r b.2 _ _ he)
        | (refine⟨h3.1,RoundIn.mono h3.2 fun e w'' he=>?_⟩
           cases e<;>first
            |exact he
            |exact wV c hQ r b.2 _ _ he)
        |exact⟨h3.1,RowsIn.mono h3.2 fun v w'' he=>wV c hQ r b.2 _ _ he⟩
     |halt x w' =>cases x<;>exact h3
    ·exact absurd h (hQ a' w')
   ·rename_i hw;rw[if_neg hw]at h;exact⟨fun f _=>c.fn f,wV c hQ r b.2 _ _ h⟩
theorem VO{id:Nat}{c:Code}(h:GCI P F n X c (Exit.inBlock id Q) μ l L):GCI P F n X (.block id c) Q μ l L:=fun a w hs=>wpIn_block (h a w hs)
theorem ER{id:Nat}{ops:List Oper}(c:IH F)(hQ:aAq Q)(b:ops.all wS=true)(h:G P X ops.toArray Q ops μ l L):GCI P F n X (.region id ops.toArray false) Q μ l L:=fun a w hs=>
 wpIn_region_lit (wV c hQ ops b a w (h a w hs))
theorem zC(c:IH F)(hQ:aAq Q)(b:wS o=true)(h:G P X ops (QA Q (wpListIn F n P ops Q rest)) [o] μ l L):GI P F n X ops Q (o::rest) μ l L:=fun a w hs=>by
 have h1:=h a w hs;unfold wpList at h1;unfold wpListIn;split
 ·rename_i hw;rw[if_pos hw]at h1;rcases h1 with h1|⟨_,a',w',h1⟩
  ·exact aDm c (tT b) (aC6 h1)
  ·exact absurd h1 (hQ a' w')
 ·rename_i hw;rw[if_neg hw]at h1;exact⟨fun f _=>c.fn f,h1⟩
theorem vT(h:GI P F n X ops Q rest μ l L):G P X ops (QA Q (wpListIn F n P ops Q rest)) [] μ l L:=fun a w hs=>h a w hs
theorem ZH(h:GQ X Q .normal μ l L):GI P F n X ops Q [] μ l L:=fun a w hs=>h a w hs
theorem MO{id:Nat}{ops:List Oper}(h:GI P Fence.wide 0 X ops.toArray Q ops μ l L):GC P X (.region id ops.toArray false) Q μ l L:=fun a w hs=>
 wpIn_wide.1 (wpIn_region_lit (n:=0) (h a w hs))
theorem St.start{nt:Nat}{μ2:Mem}{w' :World}(b:a.tmps.size=nt)(d:a.defers=[])(c:∀t v,lk l t=some v→a.tmps[t]? =some v)(hm:MOk μ2 w'):St ⟨w',μ2,[],nt⟩ μ2 l [] a w' :=
 ⟨b,by rw[d];exact Marks.nil,c,yH.refl _ _,hm,MLe.refl _,fun _ _ _ h=>h,by simp,by simp,by simp,eM⟩
def aF0(P:Program){α:Type}(lr:Nat)(enc:α→List Value)(Ok:List α→α→Prop)(μ:Mem)(N:Nat)(J Jx:List α→World→Prop):Prop:=
 ∀ (pre:List α) (x:α) (Wp W1:World),Ok pre x→J pre Wp→Below Wp.heap.size Wp W1→pre.length<N→YieldAt Fence.wide 0 P lr (enc x).toArray W1 fun e W' =>
   (e=.returned (.bool true)∧J (pre++[x]) W' ∧MOk μ W' ∧(∀b,Wp.heap.size≤b→b<W1.heap.size→W'.heap[b]? =W1.heap[b]?))∨
   (e=.returned (.bool false)∧Jx (pre++[x]) W')
def JAb{α:Type}(J:List α→World→Prop):Prop:=∀pre W W1,J pre W→Below W.heap.size W W1→J pre W1
def aHr(P:Program){α:Type}(gf:FuncId)(lb:List Value)(enc:α→List Value)(Ok:List α→α→Prop)(μ:Mem)(N:Nat)(S Sp:List α→Prop):Prop:=
 ∀ (lr:Nat) (J Jx:List α→World→Prop) (W:World),MOk μ W→JAb J→JAb Jx→aF0 P lr enc Ok μ N J Jx→J [] W→
   Calls P gf ((Value.func (.yield lr) #[] #[]::lb)).toArray W fun e W' =>(∃v,e=.returned v)∧((∃xs,S xs∧J xs W')∨(∃pre,Sp pre∧Jx pre W'))
theorem VN{α:Type}{enc:α→List Value}{Ok:List α→α→Prop}{N lr nt:Nat}{J Jx:List α→World→Prop}{w0:World}{μ0:Mem}(p:aF0 P lr enc Ok μ N J Jx)(x:α)(pre:List α)(j:Ok pre x)(hJ:J pre w0)(hlen:pre.length<N)
 (hd:o.dst=some d)(hn:Nat.blt d nt=true)(hw:dW ops l o=some true)(k:wS o=true)
 (hr:∀a w,Rd μ l L a w→(execOp a.eval o).run P w=(Instr.yield lr (enc x).toArray).run P w)
 (ht:∀w' μ',MLe μ μ' →(∀y∈L,Bk.sh y μ')→J (pre++[x]) w' →MOk μ' w' →GI P Fence.wide 0 ⟨w',μ',[],nt⟩ ops Q rest μ' ((d,.bool true)::l) [])
 (hf:∀w',Jx (pre++[x]) w' →GI P Fence.wide 0 ⟨w',fun _=>none,[],nt⟩ ops Q rest (fun _=>none) ((d,.bool false)::l) []):
 GI P Fence.wide 0 ⟨w0,μ0,[],nt⟩ ops Q (o::rest) μ l L:=fun a w hs=>by
 unfold wpListIn;rw[if_pos (hs.wanted hw)];refine⟨fun f _=>trivial,?_⟩;rw[Oper.semAt_plain Fence.wide a.eval o (tT k),hr a w hs.rd];obtain⟨fn,tmps,assign,body,h,q⟩:=p pre x w0 w j hJ hs.cW.below hlen;rw[h];refine⟨fun e=>by simp[Fence.wide]at e,q.mono fun e w' he=>?_⟩;have i:a.defers=[]:=hs.defers.none (by simp);rcases he with⟨rfl,g,hm,hk⟩|⟨rfl,g⟩
 ·have c:MOk (fun b=>match μ b with
   |some o=>some o
   |none=>if w0.heap.size≤b∧b<w.heap.size then w.heap[b]? else none) w' :=fun b o e=>by
   dsimp only at e;split at e
   ·rename_i o' h1;cases e;exact hm b o h1
   ·split at e
    ·rename_i h1;rw[hk b h1.1 h1.2];exact e
    ·cases e
  show wpListIn _ _ P ops Q rest (a.put o.dst (.bool true)) w'
  rw[hd];refine ht w' _ (fun b o e=>by simp[e]) (fun y h=>Bk.KQ (hs.own y h) (fun b o hb ho=>?_)) g c _ _ (St.put (St.start hs.size i hs.slots c) hn _);have h1:w0.heap.size≤b:=by
   rcases hs.new y h b hb with h1|h1
   ·cases h1
   ·exact h1
  have h2:=(Array.getElem?_eq_some_iff.1 ho).1;simp only[hs.priv y h b hb,h1,h2,and_self,if_true];exact ho
 ·show wpListIn _ _ P ops Q rest (a.put o.dst (.bool false)) w'
  rw[hd];exact hf w' g _ _ (St.put (St.start hs.size i hs.slots (μ2:=fun _=>none) (fun _ _ e=>(by cases e))) hn _)
theorem FX{q:Operand}{lr:Nat}{ts:Array TypeId}{x0 x1:Operand}{v0 v1:Value}{ds:Option Nat}{ty:TypeId}{pos:String}{af:Array Edge}{gd:Option (Nat×Bool)}(b:ev l q=some (.func (.yield lr) #[] #[]))(c:ev l x0=some v0)(h1:ev l x1=some v1)(a:Act)(w:World)(hr:Rd μ l L a w):
 (execOp a.eval ⟨ds,.call { callee:=.value q,args:= #[x0,x1],argTypes:=ts },ty,pos,af,gd⟩).run P w=(Instr.yield lr #[v0,v1]).run P w:=by
 have e:=hr.eval b;have e0:=hr.eval c;have e1:=hr.eval h1;generalize a.eval=ρ at e e0 e1;simp[execOp,resolve,e,e0,e1,Deferred.ofValue,invoke]
theorem PQ{w0:World}{μ0 μ2:Mem}{nt:Nat}{c:Code}(hle:MLe μ2 μ)(h:∀w',Below w0.heap.size w0 w' →MOk μ2 w' →GC P ⟨w',μ2,[],nt⟩ c Q μ2 l []):GC P ⟨w0,μ0,[],nt⟩ c Q μ l L:=fun a w hs=>
 have hm:MOk μ2 w:=fun b o e=>hs.mem b o (hle b o e)
 h w hs.cW.below hm a w ⟨hs.size,by rw[hs.defers.none (by simp)];exact Marks.nil,hs.slots,yH.refl _ _,hm,MLe.refl _,fun _ _ _ h=>h,by simp,by simp,by simp,eM⟩
def aDy(nt:Nat){ι:Type}(J:ι→World→Prop)(m:ι→Nat)(μ:Mem)(ls:ι→bG)(i:ι)(a:Act)(w:World):Prop:=
 ∃j,J j w∧m j<m i∧St ⟨w,μ,[],nt⟩ μ (ls j) [] a w
theorem ZJ{nt:Nat}{c:Code}{ι:Type}(J:ι→World→Prop)(m:ι→Nat)(ls:ι→bG)(i0:ι){w0:World}(h0:J i0 w0)(y:pN (ls i0) l)
 (hJ:∀i w w',J i w→Below w.heap.size w w' →J i w')
 (round:∀i w,J i w→MOk μ w→GC P ⟨w,μ,[],nt⟩ c (Exit.then (aDy nt J m μ ls i) Q) μ (ls i) []):GC P ⟨w0,μ,[],nt⟩ (.loop c) Q μ l L:=by
 intro a w hs b k cs
 have key:∀n i a w,m i=n→J i w→St ⟨w,μ,[],nt⟩ μ (ls i) [] a w→
  ∃e a' w',Q e a' w' ∧Arrives P (lone (b.at a (.code c::.inLoop c::k)) cs w) b k cs e a' w' :=by
  intro n;induction n using Nat.strongRecOn with
  | _ n ih=>
    intro i a w hn hJ r;obtain⟨e,a₁,w₁,o,d⟩:=round i w hJ r.mem a w r b (.inLoop c::k) cs;cases e with
    | normal=>
      obtain⟨j,aa,z,q⟩:=o;obtain⟨e₂,a₂,w₂,p,g⟩:=ih (m j) (hn▸z) j a₁ w₁ rfl aa q;exact⟨e₂,a₂,w₂,p,.of_steps (Steps.trans d (.one step_inLoop)) g⟩
    |exit id=>exact⟨_,a₁,w₁,o,.pass (x:=.inLoop c) rfl (fun _ _=>.inl (by simp)) d⟩
    |goto l=>exact⟨_,a₁,w₁,o,.pass (x:=.inLoop c) rfl (fun _ _=>.inl (by simp)) d⟩
    |ret=>exact⟨_,a₁,w₁,o,.pass (x:=.inLoop c) rfl (fun _ _=>.inl (by simp)) d⟩
    |panic ch=>exact⟨_,a₁,w₁,o,.pass (x:=.inLoop c) rfl (fun _ _=>.inl (by simp)) d⟩
    |outgrown=>exact⟨_,a₁,w₁,o,.pass (x:=.inLoop c) rfl (fun _ _=>.inl (by simp)) d⟩
 have u:St ⟨w,μ,[],nt⟩ μ (ls i0) [] a w:=⟨hs.size,by rw[hs.defers.none (by simp)];exact Marks.nil,fun t v hv=>hs.slots t v (y t v hv),yH.refl _ _,hs.mem,MLe.refl _,fun _ _ _ h=>h,by simp,by simp,by simp,eM⟩;obtain⟨e,a',w',o,d⟩:=key _ i0 a w rfl (hJ _ _ _ h0 hs.cW.below) u;exact⟨e,a',w',o,.of_steps (.one step_loop) d⟩
theorem ZG{nt:Nat}{ι:Type}{J:ι→World→Prop}{m:ι→Nat}{ls:ι→bG}{i:ι}{w0:World}{μ0:Mem}(j:ι)(hJ:∀w',Below w0.heap.size w0 w' →J j w')(hm:m j<m i)(hl:pN (ls j) l):
 GQ ⟨w0,μ0,[],nt⟩ (Exit.then (aDy nt J m μ ls i) Q) .normal μ l L:=fun a w hs=>
 ⟨j,hJ w hs.cW.below,hm,hs.size,by rw[hs.defers.none (by simp)];exact Marks.nil,fun t v hv=>hs.slots t v (hl t v hv),yH.refl _ _,hs.mem,MLe.refl _,fun _ _ _ h=>h,by simp,by simp,by simp,eM⟩
theorem EV{w0:World}{μ0:Mem}{nt:Nat}{f:FuncId}{vs:Array Value}{Rt Rf:World→Prop}(hd:o.dst=some d)(hn:Nat.blt d nt=true)(hw:dW ops l o=some true)(hr:Ent P μ l L o f vs)
 (hc:∀w,MOk μ w→Below w0.heap.size w0 w→Calls P f vs w fun e w' =>(e=.returned (.bool true)∧MOk μ w' ∧Rt w')∨(e=.returned (.bool false)∧Rf w'))
 (ht:∀w',MOk μ w' →Rt w' →G P ⟨w',μ,[],nt⟩ ops Q rest μ ((d,.bool true)::l) [])
 (hf:∀w',Rf w' →G P ⟨w',fun _=>none,[],nt⟩ ops Q rest (fun _=>none) ((d,.bool false)::l) []):G P ⟨w0,μ0,[],nt⟩ ops Q (o::rest) μ l L:=
 BU hw fun a w hs=>by
  unfold Oper.wp;rw[hr a w hs.rd,Oper.upon_enter];have b:a.defers=[]:=hs.defers.none (by simp);refine(hc w hs.mem hs.cW.below).mono fun e w' he=>?_;rcases he with⟨rfl,hm,c⟩|⟨rfl,c⟩
  ·show wpList P ops Q rest (a.put o.dst _) w'
   rw[hd];exact ht w' hm c _ _ (St.put (St.start hs.size b hs.slots hm) hn _)
  ·show wpList P ops Q rest (a.put o.dst _) w'
   rw[hd];exact hf w' c _ _ (St.put (St.start hs.size b hs.slots (μ2:=fun _=>none) (fun _ _ e=>(by cases e))) hn _)
theorem XN{fn:Func}{nt:Nat}{r:ResultVar}{v:Value}{μ0:Mem}{R:Ending→World→Prop}(hr:fn.results= #[r])(h:RV P μ l L r v)(hp:∀w',MOk μ w' →Below w.heap.size w w' →R (.returned v) w'):
 GQ ⟨w,μ0,[],nt⟩ (bodyPost P fn R) .ret μ l L:=fun a w' hs=>
 ⟨hs.defers.none (by simp),v,results1 hr h hs.rd,hp _ hs.mem hs.cW.below⟩
theorem XM{fn:Func}{nt:Nat}{μ0:Mem}{R:Ending→World→Prop}(hr:fn.results= #[])(hp:∀w' v,MOk μ w' →Below w.heap.size w w' →R (.returned v) w'){e:Exit}(he:e=.ret∨e=.normal):
 GQ ⟨w,μ0,[],nt⟩ (bodyPost P fn R) e μ l L:=fun a w' hs=>by
 have:∃v,(results fn a.tmps).run P w' =.ok v w' :=by simp[results,hr]
 obtain⟨v,hv⟩:=this;rcases he with rfl|rfl
 all_goals exact⟨hs.defers.none (by simp),v,hv,hp _ _ hs.mem hs.cW.below⟩
end
end
end Go.Vcg
namespace Go.Proofs.YtknieidhopbngaaGreat
section
open Go.RowKit Go.Vcg Go.Shelf
def vK:List (List UInt8):=[
 [],
 [80,114,111,103,114,97,109],
 [86,97,114],
 [68,101,99,108],
 [70,117,110,99],
 [80,97,114,97,109,115],
 [66,108,111,99,107],
 [69,109,112,116,121],
 [69,120,112,114],
 [73,102],
 [70,111,114],
 [70,111,114,73,110],
 [70,111,114,79,102],
 [87,104,105,108,101],
 [68,111],
 [66,114,101,97,107],
 [67,111,110,116,105,110,117,101],
 [82,101,116,117,114,110],
 [84,104,114,111,119],
 [84,114,121],
 [67,97,116,99,104],
 [83,119,105,116,99,104],
 [67,97,115,101],
 [76,97,98,101,108],
 [],
 [],
 [],
 [],
 [],
 [],
 [78,117,109],
 [84,101,120,116],
 [66,111,111,108],
 [78,117,108,108],
 [78,97,109,101],
 [84,104,105,115],
 [84,101,109,112,108,97,116,101],
 [65,114,114,97,121],
 [79,98,106,101,99,116],
 [80,114,111,112],
 [72,111,108,101],
 [83,112,114,101,97,100],
 [85,110,97,114,121],
 [85,112,100,97,116,101],
 [66,105,110,97,114,121],
 [76,111,103,105,99],
 [65,115,115,105,103,110],
 [67,111,110,100],
 [83,101,113],
 [67,97,108,108],
 [78,101,119],
 [68,111,116],
 [73,110,100,101,120],
 [67,104,97,105,110],
 [89,105,101,108,100],
 [],
 [],
 [],
 [],
 [],
 [65,114,114,80,97,116],
 [79,98,106,80,97,116],
 [80,97,116,80,114,111,112],
 [68,101,102,97,117,108,116],
 [82,101,115,116]]
def AZ(op:Int):List UInt8:=if 0≤op then vK.getD op.toNat []else[]
theorem PI{op:Int}(h:op<0∨65≤op):AZ op=[]:=by
 unfold AZ;split
 ·have:vK.length=65:=rfl;rw[cE,dQ (by omega)];rfl
 ·rfl
theorem YL{k:Nat}{l:List UInt8}(h:vK[k]? =some l):AZ (k:Int)=l:=by
 unfold AZ;rw[if_pos (by omega),fG,cE,h];rfl
abbrev aFq(l:List UInt8):List Value:=[.string ⟨l.toArray⟩]
attribute [local irreducible] G GC GQ GA dV Calls IntKind.wrap Int.decLt Int.decLe
def WI(μ:Mem)(v:Value):Prop:=∃b c,v=.slice (some ⟨b,0,none⟩) 65 c∧Sl aFq 1 μ (some ⟨b,0,none⟩) 65 vK
theorem AX(w:World)(μ:Mem)(hμ:MOk μ w):Calls Tryz.prog 36 #[] w fun e w' =>∃v μ',e=.returned v∧oH w w' μ μ' ∧WI μ' v:=by
 refine aQ Tryz.func36 rfl Tryz.ntmps36 (by simp) hμ ?_;try repeat' (first|refine KZ ?_|refine NB fun b=>?_)
 refine OP rfl (aN rfl) (fun μ' hle hL=>⟨b,65,rfl,?_⟩);have h:=hL _ (aA ..);refine Sl.PF (x:=⟨b,9,65,_⟩) h rfl (fun i l hl j v a=>?_);match j,a with
 | 0,a=>
   simp at a;subst a;have:=AA (vK.map fun l=>Value.string ⟨l.toArray⟩) 0 i (.string ⟨l.toArray⟩) (by rw[eL,hl];rfl);rw[show i*1+0=0+i by omega];exact this
 |j+1,a=>simp at a
theorem xU(op:Int)(h: -9223372036854775808≤op∧op≤9223372036854775807)(w:World)(μ:Mem)(hμ:MOk μ w):
 aO 17 #[.int .i64 op] w (.string ⟨(AZ op).toArray⟩):=by
 refine aQ Tryz.func17 rfl Tryz.ntmps17 (by simp) hμ ?_;by_cases i:op<0∨65≤op
 ·rw[PI i];try repeat' (first|refine KZ ?_|((with_reducible apply F2 36);exact rfl;exact EN;exact fun w hw=>AX w _ hw;rintro v2 μ2 d ⟨bf,c,rfl,g⟩)|(refine KB ?_ ?_<;>intro hp))
  all_goals exact xS rfl (by exact aN rfl) rfl
 ·obtain⟨k,rfl⟩:∃k:Nat,op=(k:Int):=⟨op.toNat,by omega⟩;have hl:vK.length=65:=rfl;have hg:vK[k]? =some vK[k]:=aI (by omega);rw[YL hg];have hc:∀{μ' :Mem} {b:Nat},Sl aFq 1 μ' (some ⟨b,0,none⟩) 65 vK→iK μ' ((⟨b,0,none⟩:Addr).add (k*1)) [.string ⟨vK[k].toArray⟩]:=fun g=>by obtain⟨a,e,ha⟩:=g.2 (by omega);cases e;exact ha k _ hg
  generalize vK[k]=nk at hc;try repeat' (first|refine KO ?_|((with_reducible apply F2 36);exact rfl;exact EN;(exact fun w hw=>AX w _ hw);rintro v2 μ2 d ⟨bf,c,rfl,g⟩;(have hk:=hc g))|(refine KV (b:=by first|exact U1 k|((with_reducible apply qJ);exact rfl;exact rfl;exact hk.at 0 rfl)) (c:=?_))|refine KZ ?_)
  all_goals exact xS rfl (by exact aN rfl) rfl
end
section
open Go.RowKit Go.Vcg
theorem drop_cons{l:List UInt8}{i:Nat}{b:UInt8}(h:l[i]? =some b):l.drop i=b::l.drop (i+1):=by
 obtain⟨a,e⟩:=List.getElem?_eq_some_iff.1 h;rw[←e,jH]
theorem NO{s:ByteArray}{i:Nat}(h:i<s.size):∃b,(bl s)[i]? =some b∧bAt s i=b.toNat:=by
 have h1:i< (bl s).length:=by rw[dU];exact h
 have h2:s.data.toList[i]? =some (bl s)[i]:=aI h1;refine⟨(bl s)[i],aI h1,?_⟩;unfold bAt;rw[h2];rfl
theorem wG(a b:ByteArray):bl (a++b)=bl a++bl b:=by simp[bl,ByteArray.data_append]
theorem JY{s:ByteArray}{k:Nat}{c:UInt8}(h:(bl s)[k]? =some c):bl (s.extract k (k+1))=[c]:=by
 rw[oU,drop_cons h,Nat.add_sub_cancel_left,dM,List.take_zero]
theorem aHm(l:List UInt8):bl ⟨l.toArray⟩=l:=by simp[bl]
def AN(n:Nat):Prop:=97≤n∧n≤122∨65≤n∧n≤90∨n=95∨n=36
instance (n:Nat):Decidable (AN n):=by unfold AN;exact inferInstance
def FV(n:Nat):Prop:=48≤n∧n≤57
instance (n:Nat):Decidable (FV n):=by unfold FV;exact inferInstance
def MH:List UInt8:=[48,49,50,51,52,53,54,55,56,57,65,66,67,68,69,70]
def BI(c:UInt8):List UInt8:=if FV c.toNat∨AN c.toNat then[c]else[37,MH.getD (c.toNat/16) 0,MH.getD (c.toNat%16) 0]
def BY(xs:List UInt8):List UInt8:=xs.flatMap BI
theorem WB(c:UInt8):(BI c).length≤3:=by
 unfold BI;split<;>simp
theorem NJ:∀xs:List UInt8,(BY xs).length≤3*xs.length
 |[]=>by simp[BY]
 | c::r=>by have:=NJ r;have:=WB c;unfold BY at*;rw[dA,aB,aF];omega
theorem WC{xs:List UInt8}{i:Nat}{c:UInt8}(h:xs[i]? =some c):BY (xs.take (i+1))=BY (xs.take i)++BI c:=by
 unfold BY;rw[kZ,h,aD];simp
attribute [local irreducible] G GC GQ GA dV Calls IntKind.wrap Int.decLt Int.decLe
theorem MI(s:ByteArray)(hs:s.size≤1000000)(c:UInt8){r:Bool}(hr:(bl s).contains c=r)(w:World)(μ:Mem)(hμ:MOk μ w):
 aO 38 #[.string s,.int .u8 c.toNat] w (.bool r):=by
 refine aQ Tryz.func38 rfl Tryz.ntmps38 (by simp) hμ ?_;try repeat' (refine KZ ?_)
 refine dH (ι:=Nat) (fun i=>i≤s.size∧∀j:Nat,j<i→(bl s)[j]? ≠some c) (fun i=>s.size-i) (fun _=>μ) (fun i=>[(5,.int .i64 i),(0,.string s),(1,.int .u8 c.toNat)]) (fun _=>[]) 0 ⟨by omega,fun j h=>absurd h (by omega)⟩ (fun a w hs=>J6 hs) ?_;rintro i ⟨hi,k⟩;by_cases q:i<s.size
 ·obtain⟨d,l,x⟩:=NO q;by_cases hd:d=c
  ·subst hd;have o:r=true:=by rw[←hr];exact List.contains_iff_mem.2 (aZ l)
   subst o;try repeat' (first|refine KO ?_|(refine KV (b:=by exact U2 i) (c:=?_)))
   exact xS rfl (by exact aN rfl) rfl
  ·have v:¬(bAt s i=(c.toNat:Int)):=fun h=>hd (UInt8.toNat_inj.1 (by omega));try repeat' (first|refine KO ?_|(refine KV (b:=by exact U2 i) (c:=?_))|refine KZ ?_)
   refine J4 (i+1) ⟨by omega,fun j u=>?_⟩ (by omega);rcases jV j i with h|h
   ·exact k j h
   ·have:j=i:=by omega
    subst this;rw[l];exact fun h=>hd (jX h)
 ·have p:r=false:=by
   rw[←hr];cases h:(bl s).contains c with
   |false=>rfl
   | true=>
     have hm:=List.contains_iff_mem.1 h;obtain⟨j,u⟩:=List.mem_iff_getElem?.1 hm;have g:=(List.getElem?_eq_some_iff.1 u).1;rw[dU]at g;exact absurd u (k j (by omega))
  subst p;try repeat' (refine KZ ?_)
  exact xS rfl (by exact aN rfl) rfl
end
section
open Go.RowKit Go.Vcg
def aHq(x y:Int):Int:=IntKind.i64.wrap (BitVec.ofInt 64 x&&& BitVec.ofInt 64 y).toNat
def BT(t:T)(m:Int):Bool:=decide (t.op=4)&&decide (aHq t.n m≠0)
def mO(t:T):Bool:=decide (t.op=34)||(decide (t.op=51)||decide (t.op=52))&&decide (t.n=0)
def gV(t:T):Bool:=mO t||decide (t.op=60)||decide (t.op=61)
def iD(t:T):Bool:=decide (t.op=49)||decide (t.op=51)||decide (t.op=52)
def TK(t:T):Bool:=if t.op=4 then !BT t 57 else decide (30≤t.op)&&decide (t.op≤38)||decide (42≤t.op)&&decide (t.op≤54)
def BR(t:T)(n:Nat):Bool:=match t.kids with|k::_=>decide (k.kids.length=n)|[]=>false
def aH7(t:T):Bool:=BT t 16&&BR t 0
def BL(t:T):Bool:=match t.kids with|k::_=>(match k.kids with|[x]=>decide (x.op≠64)|_=>false)|[]=>false
def aHw(t:T):Bool:=BT t 32&&BL t
def aGt(t:T):Bool:=BT t 8
def GB(i:Nat)(c:UInt8):Prop:=AN c.toNat∨i≠0∧FV c.toNat
def MT(l:List UInt8):Prop:=l≠[]∧∀(i:Nat) (c:UInt8),l[i]? =some c→GB i c
noncomputable def iQ (s:ByteArray):Bool:=dB (MT (bl s))
noncomputable def sE (t:T):Bool:=decide (t.op=31)&&iQ t.s
theorem SZ{s:ByteArray}(h:MT (bl s)):iQ s=true:=by unfold iQ;exact aCu h
theorem TA{s:ByteArray}(h:¬MT (bl s)):iQ s=false:=by unfold iQ;exact aCv h
def FU(f:FuncId)(p:T→Bool):Prop:=∀(t:T) (u:Value) (w:World) (μ:Mem),MOk μ w→KR μ t.kids u→t.size≤100000→t.s.size≤65536→
 aO f #[.agg (dG t u).toArray] w (.bool (p t))
attribute [local irreducible] aHq iQ G GC GQ GA dV Calls IntKind.wrap Int.decLt Int.decLe
theorem YU{t:T}{n:Nat}(h:t.kids=[]):BR t n=false:=by unfold BR;rw[h]
theorem HS{t k:T}{r:List T}{n:Nat}(h:t.kids=k::r):BR t n=decide (k.kids.length=n):=by unfold BR;rw[h]
theorem XD{t:T}(h:t.kids=[]):BL t=false:=by unfold BL;rw[h]
theorem aBa{t k:T}{r:List T}(h:t.kids=k::r)(hk:k.kids.length≠1):BL t=false:=by
 unfold BL;rw[h];match hm:k.kids with
 |[]=>simp[hm]
 |[x]=>rw[hm]at hk;exact absurd rfl hk
 |_::_::_=>simp[hm]
theorem XC{t k x:T}{r:List T}(h:t.kids=k::r)(hk:k.kids=[x]):BL t=decide (x.op≠64):=by
 unfold BL;rw[h];simp only[hk]
end
section
open Go.RowKit Go.Vcg
def fF(t:T)(m:Int):Bool:=decide (t.op=4)&&decide (0≤t.n)&&decide ((IntKind.i64.wrap (t.n.tdiv m)).tmod 2=1)
def vG(t:T):Bool:=decide (t.op=2)||fF t 1||decide (6≤t.op)&&decide (t.op≤19)||decide (t.op=21)||decide (t.op=23)
def iX(t:T):Bool:=if t.op=4 then !fF t 1&& !fF t 8&& !fF t 16&& !fF t 32 else decide (30≤t.op)&&decide (t.op≤38)||decide (42≤t.op)&&decide (t.op≤54)
def yX(t:T):Bool:=decide (t.op=2)&&decide (t.kids.length=1)&&BR t 1
attribute [local irreducible] iQ G GC GQ GA dV Calls IntKind.wrap Int.decLt Int.decLe
theorem qP(m:Int)(hm:m≠0):∀(t:T) (u:Value) (w:World) (μ:Mem),MOk μ w→KR μ t.kids u→
 aO 79 #[.agg (dG t u).toArray,.int .i64 m] w (.bool (fF t m)):=by
 intro t u w μ hμ hk;have ho:=hk.one;refine aQ Tryz.func79 rfl Tryz.ntmps79 (by simp) hμ ?_;try repeat' (first|refine KO ?_|(refine KV (b:=by((with_reducible apply RE);exact rfl;exact rfl;exact hm)) (c:=?_))|refine KZ ?_|refine NB fun b=>?_|(refine KB ?_ ?_<;>intro hp))
 all_goals(refine bL rfl rfl ?_;simp_all[fF];try omega)
theorem yR:FU 84 mO:=by
 intro t u w μ hμ hk hs a;have ho:=hk.one;refine aQ Tryz.func84 rfl Tryz.ntmps84 (by simp) hμ ?_;try repeat' (first|refine KZ ?_|refine NB fun b=>?_|(refine KB ?_ ?_<;>intro hp))
 all_goals(refine bL rfl rfl ?_;simp_all[mO];try omega)
theorem yQ:FU 83 gV:=by
 intro t u w μ hμ hk hs a;have ho:=hk.one;refine aQ Tryz.func83 rfl Tryz.ntmps83 (by simp) hμ ?_;try repeat' (first|refine KO ?_|refine K2 84 (fun w μc hw c=>yR t u w μc hw (hk.mono c) hs a) ?_|refine KZ ?_|refine NB fun b=>?_|(refine KB ?_ ?_<;>intro hp))
 all_goals(refine bL rfl rfl ?_;simp_all[gV];try omega)
theorem tQ:FU 29 iD:=by
 intro t u w μ hμ hk hs a;have ho:=hk.one;refine aQ Tryz.func29 rfl Tryz.ntmps29 (by simp) hμ ?_;try repeat' (first|refine KZ ?_|refine NB fun b=>?_|(refine KB ?_ ?_<;>intro hp))
 all_goals(refine bL rfl rfl ?_;simp_all[iD];try omega)
theorem OT:FU 82 vG:=by
 intro t u w μ hμ hk hs c;have ho:=hk.one;refine aQ Tryz.func82 rfl Tryz.ntmps82 (by simp) hμ ?_;try repeat' (first|refine KO ?_|refine K2 79 (fun w μc hw a=>qP 1 (by decide) t u w μc hw (hk.mono a)) ?_|refine KZ ?_|refine NB fun b=>?_|(refine KB ?_ ?_<;>intro hp))
 all_goals(refine bL rfl rfl ?_;simp_all[vG];try(intros;omega))
theorem DS:FU 50 iX:=by
 intro t u w μ hμ hk hs c;have ho:=hk.one;refine aQ Tryz.func50 rfl Tryz.ntmps50 (by simp) hμ ?_;try repeat' (first|refine KO ?_|((with_reducible apply F1 79);exact rfl;exact EN;exact fun w μc hw a=>qP _ (by decide) t u w μc hw (hk.mono a.le))|refine KZ ?_|refine NB fun b=>?_|(refine KB ?_ ?_<;>intro hp))
 all_goals(refine bL rfl rfl ?_;simp_all[iX];try(intros;omega))
theorem OW:FU 85 yX:=by
 intro t u w μ hμ hk hs o;have ho:=hk.one;obtain⟨A,c,rfl,r,d⟩:=hk.form;have hlen:=tW t;refine aQ Tryz.func85 rfl Tryz.ntmps85 (by simp) hμ ?_;by_cases h:t.kids.length=1
 ·obtain⟨k,a⟩:=List.length_eq_one_iff.1 h;obtain⟨ad,x,rfl,hm,p,g⟩:=d 0 k (by rw[a];rfl);obtain⟨A2,c2,rfl,j,-⟩:=g.form;have l:=T.dX (t:=t) (i:=0) (k:=k) (by rw[a];rfl);have q:=tW k;have hg:yX t=(decide (t.op=2)&&decide (k.kids.length=1)):=by unfold yX;rw[HS a,h];simp
  rw[hg];try repeat' (first|refine KO ?_|(refine KV (b:=by first|exact U1 0|exact U4 hm) (c:=?_))|refine KZ ?_|refine NB fun b=>?_|(refine KB ?_ ?_<;>intro hp))
  all_goals(refine bL rfl rfl ?_;simp_all;try omega)
 ·have hg:yX t=false:=by unfold yX;rw[decide_eq_false h];simp
  rw[hg];try repeat' (first|refine KZ ?_|refine NB fun b=>?_|(refine KB ?_ ?_<;>intro hp))
  all_goals(refine bL rfl rfl ?_;simp_all;try omega)
theorem xV(s:ByteArray)(hs:s.size≤65536)(w:World)(μ:Mem)(hμ:MOk μ w):
 aO 78 #[.string s] w (.bool (iQ s)):=by
 refine aQ Tryz.func78 rfl Tryz.ntmps78 (by simp) hμ ?_;try repeat' (refine KZ ?_)
 refine dH (ι:=Nat) (fun i=>i≤s.size∧∀(j:Nat) (c:UInt8),j<i→(bl s)[j]? =some c→GB j c) (fun i=>s.size-i) (fun _=>μ) (fun i=>[(3,.int .i64 i),(0,.string s)]) (fun _=>[]) 0 ⟨cU _,fun j _ h=>absurd h (by omega)⟩ (fun a w hs=>J6 hs) ?_;rintro i ⟨hi,k⟩;by_cases q:i<s.size
 ·obtain⟨c,l,u⟩:=NO (s:=s) (i:=i) q;have r:=c.toNat_lt;have g:GB i c→∀(j:Nat) (d:UInt8),j<i+1→(bl s)[j]? =some d→GB j d:=fun h j d v hd=>by
   rcases jV j i with h1|h1
   ·exact k j d h1 hd
   ·obtain rfl:j=i:=by omega
    rw[l]at hd;cases hd;exact h
  have o:¬GB i c→iQ s=false:=fun h=>TA fun hf=>h (hf.2 i c l);by_cases hk:GB i c
  ·have hb:=g hk;unfold GB AN FV at hk;try repeat' (first|refine KO ?_|(refine KV (b:=by exact U2 i) (c:=?_))|refine KZ ?_|(refine KB ?_ ?_<;>intro hp))
   all_goals first
    |exact J4 (i+1) ⟨by omega,hb⟩ (by omega)
    |(exfalso;omega)
  ·rw[o hk];unfold GB AN FV at hk;try repeat' (first|refine KO ?_|(refine KV (b:=by exact U2 i) (c:=?_))|refine KZ ?_|(refine KB ?_ ?_<;>intro hp))
   all_goals first
    |exact bL rfl rfl rfl
    |(exfalso;omega)
 ·obtain rfl:i=s.size:=by omega
  have p:∀(j:Nat) (c:UInt8),(bl s)[j]? =some c→GB j c:=fun j c hc=>k j c (by have:=(List.getElem?_eq_some_iff.1 hc).1;rw[dU]at this;exact this) hc;have hg:iQ s=decide (s≠⟨#[]⟩):=by
   by_cases h:s=⟨#[]⟩
   ·rw[TA fun hf=>hf.1 (by rw[h]),h];simp
   ·rw[SZ ⟨fun e=>h (wF e),p⟩];simp[h]
  rw[hg];try repeat' (refine KZ ?_)
  exact bL rfl rfl rfl
end
section
open Go.RowKit Go.Vcg
def opsL:List (Int×Int):=[(68,3),(80,5),(66,6),(75,22),(82,39),(81,62),(90,64)]
noncomputable def mX (c:Int) (t:T):Bool:=
 if c=70 then gV t||decide (t.op=63)
 else if c=72 then gV t||decide (t.op=63)||decide (t.op=40)
 else if c=107 then decide (t.op=31)||decide (t.op=30)
 else if c=119 then sE t
 else if c=103 then fF t 16&&BR t 0
 else if c=115 then fF t 32&&BL t
 else if c=109 then fF t 8
 else match opsL.find? (fun x=>decide (x.1=c))with|some x=>decide (t.op=x.2)|none=>false
noncomputable def isT (c:Int) (t:T):Bool:=
 if c=83 then vG t
 else if c=69 then iX t
 else if c=84 then gV t
 else if c=116 then mO t
 else if c=99 then iD t
 else if c=73 then decide (t.op=2)||decide (t.op=8)||decide (t.op=7)
 else if c=77 then iX t||decide (t.op=7)
 else if c=76 then gV t||yX t
 else if c=89 then decide (t.op=6)||decide (t.op=7)
 else if c=67 then decide (t.op=20)||decide (t.op=7)
 else if c=71 then gV t||decide (t.op=7)
 else if c=65 then iX t||decide (t.op=40)||decide (t.op=41)
 else if c=97 then iX t||decide (t.op=41)
 else mX c t
attribute [local irreducible] vG iX gV mO iD yX sE fF mX iQ G GC GQ GA dV Calls IntKind.wrap Int.decLt Int.decLe
theorem aB5(g:∀(c:Int) (t:T) (u:Value) (w:World) (μ:Mem),MOk μ w→KR μ t.kids u→t.size≤100000→t.s.size≤65536→aO 86 #[.int .u8 c,.agg (dG t u).toArray] w (.bool (mX c t)))(c:Int)(t:T)(u:Value)(w:World)(μ:Mem)(hμ:MOk μ w)(hk:KR μ t.kids u)(hs:t.size≤100000)(d:t.s.size≤65536):
 aO 52 #[.int .u8 c,.agg (dG t u).toArray] w (.bool (isT c t)):=by
 have ho:=hk.one;refine aQ Tryz.func52 rfl Tryz.ntmps52 (by simp) hμ ?_;try repeat' (first|refine KO ?_|refine K2 82 (fun w μc hw a=>OT t u w μc hw (hk.mono a) hs d) ?_|refine K2 50 (fun w μc hw a=>DS t u w μc hw (hk.mono a) hs d) ?_|refine K2 83 (fun w μc hw a=>yQ t u w μc hw (hk.mono a) hs d) ?_|refine K2 84 (fun w μc hw a=>yR t u w μc hw (hk.mono a) hs d) ?_|refine K2 29 (fun w μc hw a=>tQ t u w μc hw (hk.mono a) hs d) ?_|refine K2 85 (fun w μc hw a=>OW t u w μc hw (hk.mono a) hs d) ?_|refine K2 86 (fun w μc hw a=>g c t u w μc hw (hk.mono a) hs d) ?_|refine KZ ?_|refine NB fun b=>?_|(refine KB ?_ ?_<;>intro hp))
 all_goals(clear g hk ho hμ;refine bL rfl rfl ?_;simp_all[isT])
end
section
open Go.RowKit Go.Vcg
attribute [local irreducible] gV sE fF iQ G GC GQ GA dV Calls IntKind.wrap Int.decLt Int.decLe
theorem aEr(t:T)(u:Value)(w:World)(μ:Mem)(hμ:MOk μ w)(hk:KR μ t.kids u)(hs:t.size≤100000)(q:t.s.size≤65536):
 aO 86 #[.int .u8 103,.agg (dG t u).toArray] w (.bool (fF t 16&&BR t 0)):=by
 have ho:=hk.one;obtain⟨A,c0,rfl,z,d⟩:=hk.form;have hlen:=tW t;refine aQ Tryz.func86 rfl Tryz.ntmps86 (by simp) hμ ?_;have o:=fun(m:Int) (hm:m≠0) (w:World) (μc:Mem) (hw:MOk μc w) (hle:MLe μ μc)=>qP m hm t _ w μc hw (hk.mono hle);by_cases h:t.kids.length=0
 ·rw[YU (dC h),fV];try repeat' (first|refine KO ?_|refine K2 79 (o 16 (by decide)) ?_|refine KZ ?_|refine NB fun b=>?_|(refine KB ?_ ?_<;>intro hp))
  all_goals(refine bL rfl rfl ?_;simp_all)
 ·obtain⟨k,r,a⟩:=hX (l:=t.kids) (by intro e;rw[e]at h;exact h rfl);obtain⟨ad,x,rfl,hm,v,g⟩:=d 0 k (by rw[a];rfl);obtain⟨A2,c2,rfl,j,-⟩:=g.form;have p:=T.dX (t:=t) (i:=0) (k:=k) (by rw[a];rfl);have y:=tW k;rw[HS a];try repeat' (first|refine KO ?_|refine K2 79 (o 16 (by decide)) ?_|(refine KV (b:=by first|exact U1 0|exact U4 hm) (c:=?_))|refine KZ ?_|refine NB fun b=>?_|(refine KB ?_ ?_<;>intro hp))
  all_goals(refine bL rfl rfl ?_;simp_all)
theorem aEq(t:T)(u:Value)(w:World)(μ:Mem)(hμ:MOk μ w)(hk:KR μ t.kids u)(hs:t.size≤100000)(ae:t.s.size≤65536):
 aO 86 #[.int .u8 115,.agg (dG t u).toArray] w (.bool (fF t 32&&BL t)):=by
 have ho:=hk.one;obtain⟨A,c0,rfl,ah,g⟩:=hk.form;have hlen:=tW t;refine aQ Tryz.func86 rfl Tryz.ntmps86 (by simp) hμ ?_;have o:=fun(m:Int) (hm:m≠0) (w:World) (μc:Mem) (hw:MOk μc w) (hle:MLe μ μc)=>qP m hm t _ w μc hw (hk.mono hle);by_cases p:t.kids.length=0
 ·rw[XD (dC p),fV];try repeat' (first|refine KO ?_|refine K2 79 (o 32 (by decide)) ?_|refine KZ ?_|refine NB fun b=>?_|(refine KB ?_ ?_<;>intro hp))
  all_goals(refine bL rfl rfl ?_;simp_all)
 ·obtain⟨k,r,a⟩:=hX (l:=t.kids) (by intro e;rw[e]at p;exact p rfl);obtain⟨ad,x,rfl,hm,af,j⟩:=g 0 k (by rw[a];rfl);obtain⟨A2,c2,rfl,z,d⟩:=j.form;have ab:=T.dX (t:=t) (i:=0) (k:=k) (by rw[a];rfl);have ag:=tW k;by_cases h1:k.kids.length=1
  ·obtain⟨y,q⟩:=List.length_eq_one_iff.1 h1;obtain⟨ad2,x2,rfl,h,v,aa⟩:=d 0 y (by rw[q];rfl);rw[XC a q];try repeat' (first|refine KO ?_|refine K2 79 (o 32 (by decide)) ?_|(refine KV (b:=by first|exact U1 0|exact U4 hm|exact U4 h) (c:=?_))|refine KZ ?_|refine NB fun b=>?_|(refine KB ?_ ?_<;>intro hp))
   all_goals(refine bL rfl rfl ?_;simp_all)
  ·rw[aBa a h1,fV];try repeat' (first|refine KO ?_|refine K2 79 (o 32 (by decide)) ?_|(refine KV (b:=by first|exact U1 0|exact U4 hm) (c:=?_))|refine KZ ?_|refine NB fun b=>?_|(refine KB ?_ ?_<;>intro hp))
   all_goals(refine bL rfl rfl ?_;simp_all;try omega)
theorem UL(c:Int)(t:T)(u:Value)(w:World)(μ:Mem)(hμ:MOk μ w)(hk:KR μ t.kids u)(hs:t.size≤100000)(g:t.s.size≤65536):
 aO 86 #[.int .u8 c,.agg (dG t u).toArray] w (.bool (mX c t)):=by
 by_cases l:c=103
 ·subst l;exact aEr t u w μ hμ hk hs g
 by_cases k:c=115
 ·subst k;exact aEq t u w μ hμ hk hs g
 have ho:=hk.one;obtain⟨A,c0,rfl,v,j⟩:=hk.form;have hlen:=tW t;refine aQ Tryz.func86 rfl Tryz.ntmps86 (by simp) hμ ?_;have p:=fun(m:Int) (hm:m≠0) (w:World) (μc:Mem) (hw:MOk μc w) (hle:MLe μ μc)=>qP m hm t _ w μc hw (hk.mono hle);have ht:=fun w μc hw (hle:MLe μ μc)=>yQ t _ w μc hw (hk.mono hle) hs g;by_cases y:c=70∨c=72∨c=107∨c=119∨c=109
 ·try repeat' (first|refine KO ?_|refine K2 83 ht ?_|refine K2 78 (fun w μc hw q=>xV t.s g w μc hw) ?_|refine K2 79 (p 8 (by decide)) ?_|refine KZ ?_|refine NB fun b=>?_|(refine KB ?_ ?_<;>intro hp))
  all_goals first|(clear hk ho hμ p ht j;refine bL rfl rfl ?_;simp_all[mX,sE];done)|skip
 ·try repeat' (first|((with_reducible show GC _ _ (Code.seq (Code.region 16 _ _) _) _ _ _ _);(apply dE))|refine KZ ?_|refine NB fun b=>?_)
  all_goals try(exfalso;omega)
  rename Nat=>ba
  refine gcs ?_;have d:∀r:Bool,(match opsL.find? (fun x=>decide (x.1=c))with|some x=>decide (t.op=x.2)|none=>false)=r→mX c t=r:=fun r h=>by unfold mX;rw[if_neg (by omega),if_neg (by omega),if_neg (by omega),if_neg (by omega),if_neg (by omega),if_neg (by omega),if_neg (by omega)];exact h
  try repeat' (first|refine KZ ?_|refine NB fun b=>?_)
  refine dH (ι:=Nat) (fun i=>i≤7∧(1≤i→c≠68)∧(2≤i→c≠80)∧(3≤i→c≠66)∧(4≤i→c≠75)∧(5≤i→c≠82)∧(6≤i→c≠81)∧(7≤i→c≠90)) (fun i=>7-i) (fun _=>μ) (fun i=>[(7,.int .i64 i),(5,.string ⟨#[68,80,66,75,82,81,90]⟩),(6,.slice (some ⟨b,0,none⟩) 7 7),(0,.int .u8 c),(3,.pointer (some ⟨ba,0,none⟩))]) (fun _=>[.inl ⟨b,3,7,idx 0 [.int .i64 3,.int .i64 5,.int .i64 6,.int .i64 22,.int .i64 39,.int .i64 62,.int .i64 64]⟩,.inl ⟨ba,25,6,idx 0 (dG t (.slice A t.kids.length c0))⟩]) 0 (by omega) (fun a w hs=>J5 hs) ?_;rintro i ⟨hi,q0,q1,q2,q3,q4,q5,q6⟩;have e0:bAt ⟨#[68,80,66,75,82,81,90]⟩ 0=68:=rfl;have e1:bAt ⟨#[68,80,66,75,82,81,90]⟩ 1=80:=rfl;have e2:bAt ⟨#[68,80,66,75,82,81,90]⟩ 2=66:=rfl;have e3:bAt ⟨#[68,80,66,75,82,81,90]⟩ 3=75:=rfl;have e4:bAt ⟨#[68,80,66,75,82,81,90]⟩ 4=82:=rfl;have e5:bAt ⟨#[68,80,66,75,82,81,90]⟩ 5=81:=rfl;have e6:bAt ⟨#[68,80,66,75,82,81,90]⟩ 6=90:=rfl;have o:ByteArray.size ⟨#[68,80,66,75,82,81,90]⟩=7:=rfl;rcases(by omega:i=7∨i=0∨i=1∨i=2∨i=3∨i=4∨i=5∨i=6)with rfl|rfl|rfl|rfl|rfl|rfl|rfl|rfl
  ·rw[d false (by simp[opsL,q0,q1,q2,q3,q4,q5,q6,show¬(68:Int)=c from fun h=>q0 (by omega) h.symm,show¬(80:Int)=c from fun h=>q1 (by omega) h.symm,show¬(66:Int)=c from fun h=>q2 (by omega) h.symm,show¬(75:Int)=c from fun h=>q3 (by omega) h.symm,show¬(82:Int)=c from fun h=>q4 (by omega) h.symm,show¬(81:Int)=c from fun h=>q5 (by omega) h.symm,show¬(90:Int)=c from fun h=>q6 (by omega) h.symm])];try repeat' (refine KZ ?_)
   all_goals exact bL rfl rfl rfl
  ·by_cases hc:c=68
   ·rw[d (decide (t.op=3)) (by rw[hc];rfl)];clear d;try repeat' (first|refine KO ?_|(refine KV (b:=by exact U2 0) (c:=?_)))
    all_goals try(exfalso;omega)
    refine aW 8 _ (by kernel_rfl) rfl (aK (aK aU)) ?_;all_goals(refine D1 0 ?_;refine DD 1 ?_;refine DD 2 ?_;refine DD 3 ?_;refine D2 4 rfl (by exact U1 0) ?_;refine DD 5 ?_;refine D1 6 ?_;refine DD 7 ?_;refine D8 ?_)
    try repeat' (refine KZ ?_)
    all_goals exact bL rfl rfl rfl
   ·clear d;try repeat' (first|refine KO ?_|(refine KV (b:=by exact U2 0) (c:=?_))|refine KZ ?_)
    all_goals exact J2 1 (by omega) (by decide)
  ·by_cases hc:c=80
   ·rw[d (decide (t.op=5)) (by rw[hc];rfl)];clear d;try repeat' (first|refine KO ?_|(refine KV (b:=by exact U2 1) (c:=?_)))
    all_goals try(exfalso;omega)
    refine aW 8 _ (by kernel_rfl) rfl (aK (aK aU)) ?_;all_goals(refine D1 0 ?_;refine DD 1 ?_;refine DD 2 ?_;refine DD 3 ?_;refine D2 4 rfl (by exact U1 1) ?_;refine DD 5 ?_;refine D1 6 ?_;refine DD 7 ?_;refine D8 ?_)
    try repeat' (refine KZ ?_)
    all_goals exact bL rfl rfl rfl
   ·clear d;try repeat' (first|refine KO ?_|(refine KV (b:=by exact U2 1) (c:=?_))|refine KZ ?_)
    all_goals exact J2 2 (by omega) (by decide)
  ·by_cases hc:c=66
   ·rw[d (decide (t.op=6)) (by rw[hc];rfl)];clear d;try repeat' (first|refine KO ?_|(refine KV (b:=by exact U2 2) (c:=?_)))
    all_goals try(exfalso;omega)
    refine aW 8 _ (by kernel_rfl) rfl (aK (aK aU)) ?_;all_goals(refine D1 0 ?_;refine DD 1 ?_;refine DD 2 ?_;refine DD 3 ?_;refine D2 4 rfl (by exact U1 2) ?_;refine DD 5 ?_;refine D1 6 ?_;refine DD 7 ?_;refine D8 ?_)
    try repeat' (refine KZ ?_)
    all_goals exact bL rfl rfl rfl
   ·clear d;try repeat' (first|refine KO ?_|(refine KV (b:=by exact U2 2) (c:=?_))|refine KZ ?_)
    all_goals exact J2 3 (by omega) (by decide)
  ·by_cases hc:c=75
   ·rw[d (decide (t.op=22)) (by rw[hc];rfl)];clear d;try repeat' (first|refine KO ?_|(refine KV (b:=by exact U2 3) (c:=?_)))
    all_goals try(exfalso;omega)
    refine aW 8 _ (by kernel_rfl) rfl (aK (aK aU)) ?_;all_goals(refine D1 0 ?_;refine DD 1 ?_;refine DD 2 ?_;refine DD 3 ?_;refine D2 4 rfl (by exact U1 3) ?_;refine DD 5 ?_;refine D1 6 ?_;refine DD 7 ?_;refine D8 ?_)
    try repeat' (refine KZ ?_)
    all_goals exact bL rfl rfl rfl
   ·clear d;try repeat' (first|refine KO ?_|(refine KV (b:=by exact U2 3) (c:=?_))|refine KZ ?_)
    all_goals exact J2 4 (by omega) (by decide)
  ·by_cases hc:c=82
   ·rw[d (decide (t.op=39)) (by rw[hc];rfl)];clear d;try repeat' (first|refine KO ?_|(refine KV (b:=by exact U2 4) (c:=?_)))
    all_goals try(exfalso;omega)
    refine aW 8 _ (by kernel_rfl) rfl (aK (aK aU)) ?_;all_goals(refine D1 0 ?_;refine DD 1 ?_;refine DD 2 ?_;refine DD 3 ?_;refine D2 4 rfl (by exact U1 4) ?_;refine DD 5 ?_;refine D1 6 ?_;refine DD 7 ?_;refine D8 ?_)
    try repeat' (refine KZ ?_)
    all_goals exact bL rfl rfl rfl
   ·clear d;try repeat' (first|refine KO ?_|(refine KV (b:=by exact U2 4) (c:=?_))|refine KZ ?_)
    all_goals exact J2 5 (by omega) (by decide)
  ·by_cases hc:c=81
   ·rw[d (decide (t.op=62)) (by rw[hc];rfl)];clear d;try repeat' (first|refine KO ?_|(refine KV (b:=by exact U2 5) (c:=?_)))
    all_goals try(exfalso;omega)
    refine aW 8 _ (by kernel_rfl) rfl (aK (aK aU)) ?_;all_goals(refine D1 0 ?_;refine DD 1 ?_;refine DD 2 ?_;refine DD 3 ?_;refine D2 4 rfl (by exact U1 5) ?_;refine DD 5 ?_;refine D1 6 ?_;refine DD 7 ?_;refine D8 ?_)
    try repeat' (refine KZ ?_)
    all_goals exact bL rfl rfl rfl
   ·clear d;try repeat' (first|refine KO ?_|(refine KV (b:=by exact U2 5) (c:=?_))|refine KZ ?_)
    all_goals exact J2 6 (by omega) (by decide)
  ·by_cases hc:c=90
   ·rw[d (decide (t.op=64)) (by rw[hc];rfl)];clear d;try repeat' (first|refine KO ?_|(refine KV (b:=by exact U2 6) (c:=?_)))
    all_goals try(exfalso;omega)
    refine aW 8 _ (by kernel_rfl) rfl (aK (aK aU)) ?_;all_goals(refine D1 0 ?_;refine DD 1 ?_;refine DD 2 ?_;refine DD 3 ?_;refine D2 4 rfl (by exact U1 6) ?_;refine DD 5 ?_;refine D1 6 ?_;refine DD 7 ?_;refine D8 ?_)
    try repeat' (refine KZ ?_)
    all_goals exact bL rfl rfl rfl
   ·clear d;try repeat' (first|refine KO ?_|(refine KV (b:=by exact U2 6) (c:=?_))|refine KZ ?_)
    all_goals exact J2 7 (by omega) (by decide)
end
section
open Go.RowKit Go.Vcg
def Cls(μ:Mem)(v:Value)(p:T→Bool):Prop:=∃(f:FuncId) (cap:List Value),v=.func (.func f) #[] cap.toArray∧hG Tryz.prog f=true∧∀(t:T) (u:Value) (w:World) (μ' :Mem),MOk μ' w→MLe μ μ' →KR μ' t.kids u→t.size≤100000→t.s.size≤65536→
 Calls Tryz.prog f ([Value.agg (dG t u).toArray]++cap).toArray w fun e w' =>e=.returned (.bool (p t))∧Below w.heap.size w w'
theorem Cls.of{f:FuncId}{p:T→Bool}(h:FU f p)(hf:hG Tryz.prog f=true)(μ:Mem):Cls μ (.func (.func f) #[] #[]) p:=
 ⟨f,[],rfl,hf,fun t u w μ' hw _ hk hs a=>h t u w μ' hw hk hs a⟩
attribute [local irreducible] G GC GQ GA dV Calls IntKind.wrap Int.decLt Int.decLe
end
section
open Go.RowKit Go.Vcg
def aFo(p:T→Bool)(a b:Int)(ks:List T):Bool:=decide (a≤(ks.length:Int))&&(decide (b<0)||decide ((ks.length:Int)≤b))&&ks.all p
def ofT(is:List Int)(t:T):Bool:=decide (t.op∈is)
attribute [local irreducible] G GC GQ GA dV Calls IntKind.wrap Int.decLt Int.decLe
end
section
open Go.RowKit Go.Vcg
def eiT(ps:List (T→Bool))(t:T):Bool:=ps.any fun p=>p t
def aHt(μ:Mem)(vs:List Value)(ps:List (T→Bool)):Prop:=vs.length=ps.length∧∀(i:Nat) (v:Value) (p:T→Bool),vs[i]? =some v→ps[i]? =some p→Cls μ v p
theorem Cls.one{μ:Mem}{v:Value}{p:T→Bool}(h:Cls μ v p):v.oneCell' =true:=by
 obtain⟨f,cap,rfl,_⟩:=h;rfl
theorem aHt.one{μ:Mem}{vs:List Value}{ps:List (T→Bool)}(h:aHt μ vs ps):∀v∈vs,v.oneCell' =true:=fun v hv=>by
 obtain⟨i,hi⟩:=List.mem_iff_getElem?.1 hv;have b:=(List.getElem?_eq_some_iff.1 hi).1;have a:i<ps.length:=by rw[←h.1];exact b
 exact(h.2 i v ps[i] hi (aI a)).one
attribute [local irreducible] G GC GQ GA dV Calls IntKind.wrap Int.decLt Int.decLe
end
section
open Go.RowKit Go.Vcg
attribute [local irreducible] G GC GQ GA dV Calls IntKind.wrap Int.decLt Int.decLe
end
section
open Go.RowKit Go.Vcg
theorem KR.TN{μ:Mem}{ks:List T}{A:Option Addr}{n c:Nat}(h:KR μ ks (.slice A n c))(hn:1≤n):KR μ (ks.drop 1) (.slice (if c=1 then A else A.map (·.add (1*6))) (n-1) (c-1)):=by
 cases h with
 | mk _ A c vs hcap hcell hone hsub=>
   have e:(ks.drop 1).length=ks.length-1:=by simp
   have b:∀(i:Nat) (t:T),(ks.drop 1)[i]? =some t→ks[1+i]? =some t:=fun i t hi=>by simpa[lL]using hi
   have:=KR.mk (μ:=μ) (ks.drop 1) (if c=1 then A else A.map (·.add (1*6))) (c-1) (fun i=>vs (1+i)) (by omega) (fun i t hi=>?_) (fun i t hi=>hone _ t (b i t hi)) (fun i t hi=>hsub _ t (b i t hi))
   ·rw[e]at this;exact this
   ·obtain⟨a,e,hc⟩:=hcell _ t (b i t hi);have:1+i<ks.length:=(List.getElem?_eq_some_iff.1 (b i t hi)).1;rw[if_neg (by omega),e];refine⟨_,rfl,?_⟩;rw[rN,←dK];exact hc
def vY(p:T→Bool)(m:Int):Nat→List T→Nat×List T
 |n,[]=>(n,[])
 |n,k::r=>if p k=true∧(n=0∨m=2)then vY p m (n+1) r else(n,k::r)
def oG:List ((T→Bool)×Int)→List T→Bool
 |[],l=>decide (l.length=0)
 |(p,m)::r,l=>if(vY p m 0 l).1=0∧m=0 then false else oG r (vY p m 0 l).2
theorem uG{α:Type}{l:List α}{j:Nat}{t:α}(h:l[j]? =some t):l.drop j=t::l.drop (j+1):=by
 obtain⟨a,e⟩:=List.getElem?_eq_some_iff.1 h;rw[←e,jH]
attribute [local irreducible] G GC GQ GA dV Calls IntKind.wrap Int.decLt Int.decLe
end
section
open Go.RowKit Go.Vcg
noncomputable def gQ:List UInt8→List T→Bool
 |[],l=>decide (l.length=0)
 | [c],l=>match l with
   |k::r=>if isT (c.toNat:Int) k=true then decide (r.length=0)else false
   |[]=>false
 | c::d::rr,l=>
   if d=42 then gQ rr (l.dropWhile (isT (c.toNat:Int)))
   else match l with
    |k::r=>if isT (c.toNat:Int) k=true then(if d=63 then gQ rr r else gQ (d::rr) r)else(if d=63 then gQ rr (k::r)else false)
    |[]=>if d=63 then gQ rr []else false
theorem zS(c:UInt8)(rr:List UInt8)(l:List T):gQ (c::42::rr) l=gQ rr (l.dropWhile (isT (c.toNat:Int))):=by
 rw[gQ.eq_def];simp
theorem OK(c:UInt8)(rr:List UInt8)(l:List T):gQ (c::63::rr) l=gQ rr (match l with|k::r=>if isT (c.toNat:Int) k=true then r else k::r|[]=>[]):=by
 rw[gQ.eq_def];cases l with
 |nil=>simp
 |cons k r=>cases h:isT (c.toNat:Int) k<;>simp[h]
theorem IQ{c d:UInt8}{rr:List UInt8}{l:List T}(h1:d≠42)(h2:d≠63):gQ (c::d::rr) l=match l with|k::r=>if isT (c.toNat:Int) k=true then gQ (d::rr) r else false|[]=>false:=by
 rw[gQ.eq_def];cases l with
 |nil=>simp[h1,h2]
 |cons k r=>cases h:isT (c.toNat:Int) k<;>simp[h,h1,h2]
theorem sR(l:List T):gQ [] l=decide (l.length=0):=by rw[gQ.eq_def]
theorem IR(c:UInt8)(l:List T):gQ [c] l=match l with|k::r=>if isT (c.toNat:Int) k=true then gQ [] r else false|[]=>false:=by
 rw[gQ.eq_def];cases l with
 |nil=>simp
 |cons k r=>simp[sR]
attribute [local irreducible] isT G GC GQ GA dV Calls IntKind.wrap Int.decLt Int.decLe
theorem XH(s:ByteArray)(bh:s.size≤1000)(ks:List T)(A:Option Addr)(n c:Nat)(w:World)(μ:Mem)(hμ:MOk μ w)(hk:KR μ ks (.slice A n c))(ar:ks.length=n)(hn:n≤100000)(ak:∀k∈ks,T.size k≤100000∧k.s.size≤65536):
 aO 32 #[.string s,.slice A n c] w (.bool (gQ (bl s) ks)):=by
 refine aQ Tryz.func32 rfl Tryz.ntmps32 (by simp) hμ ?_;have al:=fun(c:Int) (t:T) (u:Value) (w:World) (μc:Mem) (hw:MOk μc w) (hk:KR μc t.kids u) (h1:t.size≤100000) (h2:t.s.size≤65536)=>aB5 UL c t u w μc hw hk h1 h2;generalize hR:gQ (bl s) ks=R;try repeat' (refine KZ ?_)
 refine dH (ι:=Nat×Nat×Option Addr×Nat) (fun i=>i.1≤s.size∧i.2.1≤n∧KR μ (ks.drop i.2.1) (.slice i.2.2.1 (n-i.2.1) i.2.2.2)∧gQ ((bl s).drop i.1) (ks.drop i.2.1)=R) (fun i=>s.size-i.1) (fun _=>μ) (fun i=>[(5,.int .i64 i.1),(0,.string s),(1,.slice i.2.2.1 (n-i.2.1) i.2.2.2)]) (fun _=>[]) (0,0,A,c) ⟨by simp,by simp,by simpa using hk,by simpa using hR⟩ (fun a w hs=>J6 hs) ?_;rintro⟨i,j,Aj,cj⟩ ⟨hi,hj,ad,g⟩;dsimp only at hi hj ad g⊢;by_cases ba:i<s.size
 ·obtain⟨x,hx1,aj⟩:=NO (s:=s) (i:=i) ba;have a8:=drop_cons hx1;rw[a8]at g;have au:(ks.drop j).length=n-j:=by rw[bC,ar]
  by_cases ay:i+1<s.size
  ·obtain⟨y,a7,ai⟩:=NO (s:=s) (i:=i+1) ay;have ax:=drop_cons a7;rw[ax]at g;have bg:=y.toNat_lt;by_cases ao:y=42
   ·subst ao;have a6:bAt s (i+1)=42:=ai;try repeat' (first|refine KO ?_|(refine KV (b:=by exact U2 (i+1)) (c:=?_))|refine KZ ?_)
    rw[zS,←aj]at g;refine dH (ι:=Nat×Option Addr×Nat) (fun q=>q.1≤n∧KR μ (ks.drop q.1) (.slice q.2.1 (n-q.1) q.2.2)∧(ks.drop q.1).dropWhile (isT (bAt s i))=(ks.drop j).dropWhile (isT (bAt s i))) (fun q=>n-q.1) (fun _=>μ) (fun q=>[(5,.int .i64 i),(0,.string s),(1,.slice q.2.1 (n-q.1) q.2.2)]) (fun _=>[]) (j,Aj,cj) ⟨hj,ad,rfl⟩ (fun a w hs=>J5 hs) ?_;rintro⟨j2,A2,c2⟩ ⟨av,ah,aw⟩;dsimp only at av ah aw⊢;have an:(ks.drop j2).dropWhile (isT (bAt s i))=ks.drop j2→gQ ((bl s).drop (i+2)) (ks.drop j2)=R:=fun h=>by rw[←g,←aw,h]
    by_cases ag:j2<n
    ·have r:ks[j2]? =some ks[j2]:=aI (by omega);generalize ks[j2]=t at r;have l:=uG r;have aa:=ah.TN (by omega);rw[cF]at aa;obtain⟨A',c',e,ae,ab⟩:=ah.form;have az:(ks.drop j2).length=n-j2:=by rw[bC,ar]
     rw[az]at e ae;cases e;obtain⟨ad2,u2,rfl,z,aq,af⟩:=ab 0 t (by rw[l];rfl);have v:=ak t (aZ r);have d:=fun w μc hw (hle:MLe μ μc)=>al (bAt s i) t u2 w μc hw (af.mono hle) v.1 v.2;cases o:isT (bAt s i) t
     ·have hE:=an (by rw[l,fZ,if_neg (by simp[o])]);rw[o]at d;try repeat' (refine KZ ?_)
      refine aW 12 ([]) (by kernel_rfl) rfl (by exact aH _) ?_;all_goals(refine DD 0 ?_;refine D1 1 ?_;refine D1 2 ?_;refine DD 3 ?_)
      all_goals(try(refine D7 4 ?_;(repeat' (refine KO ?_))))
      all_goals(refine DD 4 ?_;refine DD 5 ?_;refine D2 6 rfl (by exact U2 i) ?_;refine DD 7 ?_;refine D2 8 rfl (by exact U1 0) ?_;refine D2 9 rfl (by exact U4 z) ?_)
      all_goals(refine D3 10 ?_;refine D5 ?_;(with_reducible apply C1);exact rfl;exact EN;exact fun w μc hw p=>d w μc hw p.le;refine D9 ?_)
      all_goals(refine DD 11 ?_;refine D8 ?_)
      all_goals
       try repeat' (refine KZ ?_)
      all_goals first
       |exact J2 (i+2,j2,_,_) ⟨by show i+2≤s.size;omega,av,ah,hE⟩ (by show s.size- (i+2)<s.size-i;omega)
       |(exfalso;omega)
     ·rw[o]at d;have hE:(ks.drop (j2+1)).dropWhile (isT (bAt s i))=(ks.drop j).dropWhile (isT (bAt s i)):=by rw[←aw,l,fZ,if_pos o]
      try repeat' (refine KZ ?_)
      refine aW 12 ([]) (by kernel_rfl) rfl (by exact aH _) ?_;all_goals(refine DD 0 ?_;refine D1 1 ?_;refine D1 2 ?_;refine DD 3 ?_)
      all_goals(try(refine D7 4 ?_;(repeat' (refine KO ?_))))
      all_goals(refine DD 4 ?_;refine DD 5 ?_;refine D2 6 rfl (by exact U2 i) ?_;refine DD 7 ?_;refine D2 8 rfl (by exact U1 0) ?_;refine D2 9 rfl (by exact U4 z) ?_)
      all_goals(refine D3 10 ?_;refine D5 ?_;(with_reducible apply C1);exact rfl;exact EN;exact fun w μc hw p=>d w μc hw p.le;refine D9 ?_)
      all_goals(refine DD 11 ?_;refine D8 ?_)
      all_goals
       try repeat' (first|refine KO ?_|(refine KV (b:=by((with_reducible apply tJ 1);(iterate 5 exact rfl);omega)) (c:=?_)))
      all_goals first
       |exact J2 (j2+1,_,_) ⟨by show j2+1≤n;omega,aa,hE⟩ (by show n- (j2+1)<n-j2;omega)
       |(exfalso;omega)
    ·obtain rfl:j2=n:=by omega
     have l:ks.drop j2=[]:=cJ (by omega);have hE:=an (by rw[l];rfl);try repeat' (refine KZ ?_)
     refine aW 12 ([]) (by kernel_rfl) rfl (by exact aH _) ?_;all_goals(refine DD 0 ?_;refine D1 1 ?_;refine D1 2 ?_;refine DD 3 ?_)
     all_goals(try(refine D7 4 ?_;(repeat' (refine KO ?_))))
     all_goals(refine DD 4 ?_;refine DD 5 ?_;refine D1 6 ?_;refine DD 7 ?_;refine D1 8 ?_;refine D1 9 ?_;refine D3 10 (D6 ?_);refine DD 11 ?_;refine D8 ?_)
     all_goals
      try repeat' (refine KZ ?_)
     all_goals first
      |exact J2 (i+2,j2,_,_) ⟨by show i+2≤s.size;omega,av,ah,hE⟩ (by show s.size- (i+2)<s.size-i;omega)
      |(exfalso;omega)
   ·have bf:bAt s (i+1)≠42:=fun h=>ao (UInt8.toNat_inj.1 (by rw[ai]at h;simpa using(by omega:y.toNat=42)));by_cases ap:y=63
    ·subst ap;have a6:bAt s (i+1)=63:=ai;rw[OK,←aj]at g;by_cases ag:j<n
     ·have r:ks[j]? =some ks[j]:=aI (by omega);generalize ks[j]=t at r;have l:=uG r;have aa:=ad.TN (by omega);rw[cF]at aa;obtain⟨A',c',e,ae,ab⟩:=ad.form;rw[au]at e ae;cases e;obtain⟨ad2,u2,rfl,z,aq,af⟩:=ab 0 t (by rw[l];rfl);have v:=ak t (aZ r);have d:=fun w μc hw (hle:MLe μ μc)=>al (bAt s i) t u2 w μc hw (af.mono hle) v.1 v.2;rw[l]at g;dsimp only at g;cases o:isT (bAt s i) t
      ·rw[o,if_neg (by simp)]at g;rw[o]at d;rw[←l]at g;try repeat' (first|refine KO ?_|(refine KV (b:=by exact U2 (i+1)) (c:=?_))|refine KZ ?_)
       refine aW 13 ([]) (by kernel_rfl) rfl (by exact aH _) ?_;all_goals(refine DD 0 ?_;refine D1 1 ?_;refine D1 2 ?_;refine DD 3 ?_)
       all_goals(try(refine D7 4 ?_;(repeat' (refine KO ?_))))
       all_goals(refine DD 4 ?_;refine DD 5 ?_;refine D2 6 rfl (by exact U2 i) ?_;refine DD 7 ?_;refine D2 8 rfl (by exact U1 0) ?_;refine D2 9 rfl (by exact U4 z) ?_)
       all_goals(refine D3 10 ?_;refine D5 ?_;(with_reducible apply C1);exact rfl;exact EN;exact fun w μc hw p=>d w μc hw p.le;refine D9 ?_)
       all_goals(refine DD 11 ?_;refine DD 12 ?_;refine D8 ?_)
       all_goals
        try repeat' (refine KZ ?_)
       all_goals exact J2 (i+2,j,_,_) ⟨by show i+2≤s.size;omega,hj,ad,g⟩ (by show s.size- (i+2)<s.size-i;omega)
      ·rw[o,if_pos rfl]at g;rw[o]at d;try repeat' (first|refine KO ?_|(refine KV (b:=by exact U2 (i+1)) (c:=?_))|refine KZ ?_)
       refine aW 13 ([]) (by kernel_rfl) rfl (by exact aH _) ?_;all_goals(refine DD 0 ?_;refine D1 1 ?_;refine D1 2 ?_;refine DD 3 ?_)
       all_goals(try(refine D7 4 ?_;(repeat' (refine KO ?_))))
       all_goals(refine DD 4 ?_;refine DD 5 ?_;refine D2 6 rfl (by exact U2 i) ?_;refine DD 7 ?_;refine D2 8 rfl (by exact U1 0) ?_;refine D2 9 rfl (by exact U4 z) ?_)
       all_goals(refine D3 10 ?_;refine D5 ?_;(with_reducible apply C1);exact rfl;exact EN;exact fun w μc hw p=>d w μc hw p.le;refine D9 ?_)
       all_goals(refine DD 11 ?_;refine DD 12 ?_;refine D8 ?_)
       all_goals
        try repeat' (first|refine KO ?_|(refine KV (b:=by((with_reducible apply tJ 1);(iterate 5 exact rfl);omega)) (c:=?_))|refine KZ ?_)
       all_goals exact J2 (i+2,j+1,_,_) ⟨by show i+2≤s.size;omega,by show j+1≤n;omega,aa,g⟩ (by show s.size- (i+2)<s.size-i;omega)
     ·obtain rfl:j=n:=by omega
      have l:ks.drop j=[]:=cJ (by omega);rw[l]at g;dsimp only at g;rw[←l]at g;try repeat' (first|refine KO ?_|(refine KV (b:=by exact U2 (i+1)) (c:=?_))|refine KZ ?_)
      refine aW 13 ([]) (by kernel_rfl) rfl (by exact aH _) ?_;all_goals(refine DD 0 ?_;refine D1 1 ?_;refine D1 2 ?_;refine DD 3 ?_)
      all_goals(try(refine D7 4 ?_;(repeat' (refine KO ?_))))
      all_goals(refine DD 4 ?_;refine DD 5 ?_;refine D1 6 ?_;refine DD 7 ?_;refine D1 8 ?_;refine D1 9 ?_;refine D3 10 (D6 ?_);refine DD 11 ?_;refine DD 12 ?_;refine D8 ?_)
      all_goals
       try repeat' (refine KZ ?_)
      all_goals exact J2 (i+2,j,_,_) ⟨by show i+2≤s.size;omega,hj,ad,g⟩ (by show s.size- (i+2)<s.size-i;omega)
    ·have bc:bAt s (i+1)≠63:=fun h=>ap (UInt8.toNat_inj.1 (by rw[ai]at h;simpa using(by omega:y.toNat=63)));rw[IQ ao ap,←aj,←ax]at g;by_cases ag:j<n
     ·have r:ks[j]? =some ks[j]:=aI (by omega);generalize ks[j]=t at r;have l:=uG r;have aa:=ad.TN (by omega);rw[cF]at aa;obtain⟨A',c',e,ae,ab⟩:=ad.form;rw[au]at e ae;cases e;obtain⟨ad2,u2,rfl,z,aq,af⟩:=ab 0 t (by rw[l];rfl);have v:=ak t (aZ r);have d:=fun w μc hw (hle:MLe μ μc)=>al (bAt s i) t u2 w μc hw (af.mono hle) v.1 v.2;rw[l]at g;dsimp only at g;cases o:isT (bAt s i) t
      ·rw[o,if_neg (by simp)]at g;rw[o]at d;try repeat' (first|refine KO ?_|(refine KV (b:=by exact U2 (i+1)) (c:=?_))|refine KZ ?_)
       refine aW 13 ([]) (by kernel_rfl) rfl (by exact aH _) ?_;all_goals(refine DD 0 ?_;refine D1 1 ?_;refine D1 2 ?_;refine DD 3 ?_)
       all_goals(try(refine D7 4 ?_;(repeat' (refine KO ?_))))
       all_goals(refine DD 4 ?_;refine DD 5 ?_;refine D2 6 rfl (by exact U2 i) ?_;refine DD 7 ?_;refine D2 8 rfl (by exact U1 0) ?_;refine D2 9 rfl (by exact U4 z) ?_)
       all_goals(refine D3 10 ?_;refine D5 ?_;(with_reducible apply C1);exact rfl;exact EN;exact fun w μc hw p=>d w μc hw p.le;refine D9 ?_)
       all_goals(refine DD 11 ?_;refine DD 12 ?_;refine D8 ?_)
       all_goals
        try repeat' (refine KO ?_)
       all_goals exact bL rfl rfl (congrArg _ g)
      ·rw[o,if_pos rfl]at g;rw[o]at d;try repeat' (first|refine KO ?_|(refine KV (b:=by exact U2 (i+1)) (c:=?_))|refine KZ ?_)
       refine aW 13 ([]) (by kernel_rfl) rfl (by exact aH _) ?_;all_goals(refine DD 0 ?_;refine D1 1 ?_;refine D1 2 ?_;refine DD 3 ?_)
       all_goals(try(refine D7 4 ?_;(repeat' (refine KO ?_))))
       all_goals(refine DD 4 ?_;refine DD 5 ?_;refine D2 6 rfl (by exact U2 i) ?_;refine DD 7 ?_;refine D2 8 rfl (by exact U1 0) ?_;refine D2 9 rfl (by exact U4 z) ?_)
       all_goals(refine D3 10 ?_;refine D5 ?_;(with_reducible apply C1);exact rfl;exact EN;exact fun w μc hw p=>d w μc hw p.le;refine D9 ?_)
       all_goals(refine DD 11 ?_;refine DD 12 ?_;refine D8 ?_)
       all_goals
        try repeat' (first|refine KO ?_|(refine KV (b:=by((with_reducible apply tJ 1);(iterate 5 exact rfl);omega)) (c:=?_))|refine KZ ?_)
       all_goals exact J2 (i+1,j+1,_,_) ⟨by show i+1≤s.size;omega,by show j+1≤n;omega,aa,g⟩ (by show s.size- (i+1)<s.size-i;omega)
     ·obtain rfl:j=n:=by omega
      have l:ks.drop j=[]:=cJ (by omega);rw[l]at g;dsimp only at g;try repeat' (first|refine KO ?_|(refine KV (b:=by exact U2 (i+1)) (c:=?_))|refine KZ ?_)
      refine aW 13 ([]) (by kernel_rfl) rfl (by exact aH _) ?_;all_goals(refine DD 0 ?_;refine D1 1 ?_;refine D1 2 ?_;refine DD 3 ?_)
      all_goals(try(refine D7 4 ?_;(repeat' (refine KO ?_))))
      all_goals(refine DD 4 ?_;refine DD 5 ?_;refine D1 6 ?_;refine DD 7 ?_;refine D1 8 ?_;refine D1 9 ?_;refine D3 10 (D6 ?_);refine DD 11 ?_;refine DD 12 ?_;refine D8 ?_)
      all_goals
       try repeat' (refine KZ ?_)
      all_goals exact bL rfl rfl (congrArg _ g)
  ·have a1:(bl s).drop (i+1)=[]:=cJ (by rw[dU];omega);rw[a1,IR,←aj,←a1]at g;by_cases ag:j<n
   ·have r:ks[j]? =some ks[j]:=aI (by omega);generalize ks[j]=t at r;have l:=uG r;have aa:=ad.TN (by omega);rw[cF]at aa;obtain⟨A',c',e,ae,ab⟩:=ad.form;rw[au]at e ae;cases e;obtain⟨ad2,u2,rfl,z,aq,af⟩:=ab 0 t (by rw[l];rfl);have v:=ak t (aZ r);have d:=fun w μc hw (hle:MLe μ μc)=>al (bAt s i) t u2 w μc hw (af.mono hle) v.1 v.2;rw[l]at g;dsimp only at g;cases o:isT (bAt s i) t
    ·rw[o,if_neg (by simp)]at g;rw[o]at d;try repeat' (refine KZ ?_)
     refine aW 13 ([]) (by kernel_rfl) rfl (by exact aH _) ?_;all_goals(refine DD 0 ?_;refine D1 1 ?_;refine D1 2 ?_;refine DD 3 ?_)
     all_goals(try(refine D7 4 ?_;(repeat' (refine KO ?_))))
     all_goals(refine DD 4 ?_;refine DD 5 ?_;refine D2 6 rfl (by exact U2 i) ?_;refine DD 7 ?_;refine D2 8 rfl (by exact U1 0) ?_;refine D2 9 rfl (by exact U4 z) ?_)
     all_goals(refine D3 10 ?_;refine D5 ?_;(with_reducible apply C1);exact rfl;exact EN;exact fun w μc hw p=>d w μc hw p.le;refine D9 ?_)
     all_goals(refine DD 11 ?_;refine DD 12 ?_;refine D8 ?_)
     all_goals
      try repeat' (refine KO ?_)
     all_goals exact bL rfl rfl (congrArg _ g)
    ·rw[o,if_pos rfl]at g;rw[o]at d;try repeat' (refine KZ ?_)
     refine aW 13 ([]) (by kernel_rfl) rfl (by exact aH _) ?_;all_goals(refine DD 0 ?_;refine D1 1 ?_;refine D1 2 ?_;refine DD 3 ?_)
     all_goals(try(refine D7 4 ?_;(repeat' (refine KO ?_))))
     all_goals(refine DD 4 ?_;refine DD 5 ?_;refine D2 6 rfl (by exact U2 i) ?_;refine DD 7 ?_;refine D2 8 rfl (by exact U1 0) ?_;refine D2 9 rfl (by exact U4 z) ?_)
     all_goals(refine D3 10 ?_;refine D5 ?_;(with_reducible apply C1);exact rfl;exact EN;exact fun w μc hw p=>d w μc hw p.le;refine D9 ?_)
     all_goals(refine DD 11 ?_;refine DD 12 ?_;refine D8 ?_)
     all_goals
      try repeat' (first|refine KO ?_|(refine KV (b:=by((with_reducible apply tJ 1);(iterate 5 exact rfl);omega)) (c:=?_))|refine KZ ?_)
     all_goals exact J2 (i+1,j+1,_,_) ⟨by show i+1≤s.size;omega,by show j+1≤n;omega,aa,g⟩ (by show s.size- (i+1)<s.size-i;omega)
   ·obtain rfl:j=n:=by omega
    have l:ks.drop j=[]:=cJ (by omega);rw[l]at g;dsimp only at g;try repeat' (refine KZ ?_)
    refine aW 13 ([]) (by kernel_rfl) rfl (by exact aH _) ?_;all_goals(refine DD 0 ?_;refine D1 1 ?_;refine D1 2 ?_;refine DD 3 ?_)
    all_goals(try(refine D7 4 ?_;(repeat' (refine KO ?_))))
    all_goals(refine DD 4 ?_;refine DD 5 ?_;refine D1 6 ?_;refine DD 7 ?_;refine D1 8 ?_;refine D1 9 ?_;refine D3 10 (D6 ?_);refine DD 11 ?_;refine DD 12 ?_;refine D8 ?_)
    all_goals
     try repeat' (refine KZ ?_)
    all_goals exact bL rfl rfl (congrArg _ g)
 ·obtain rfl:i=s.size:=by omega
  rw[cJ (by rw[dU];omega)]at g;have bb:decide (n-j=0)=R:=by rw[←g,←ar,←bC,sR]
  try repeat' (refine KZ ?_)
  refine bL rfl rfl ?_;rw[←bb];congr 1;simp;try omega
end
section
open Go.RowKit Go.Vcg
def YW(t:T):T→Bool:=if t.m=1 then TK else ofT [31,30]
attribute [local irreducible] G GC GQ GA dV Calls IntKind.wrap Int.decLt Int.decLe
end
section
open Go.RowKit Go.Vcg
def NZ(i:Nat)(e:T→Bool)(t:T):Prop:=if i%2=0 then t.op=31 else e t=true
def DF(e:T→Bool)(ks:List T):Prop:=ks.length%2=1∧∀(i:Nat) (t:T),ks[i]? =some t→NZ i e t
noncomputable def pP (e:T→Bool) (ks:List T):Bool:=dB (DF e ks)
theorem KL{e:T→Bool}{ks:List T}(h:DF e ks):pP e ks=true:=by unfold pP;exact aCu h
theorem KM{e:T→Bool}{ks:List T}(h:¬DF e ks):pP e ks=false:=by unfold pP;exact aCv h
inductive mR:T→Prop
 |one {t:T} (h:iD t=true) (hn:t.n=1):mR t
 |more {t k:T} (h:iD t=true) (hk:t.kids[0]? =some k) (hc:mR k):mR t
noncomputable def chB (t:T):Bool:=dB (mR t)
theorem TS{t:T}(h:mR t):chB t=true:=by unfold chB;exact aCu h
theorem TT{t:T}(h:¬mR t):chB t=false:=by unfold chB;exact aCv h
theorem aCz{t:T}(h:iD t=false):¬mR t:=fun hc=>by
 cases hc with
 |one h2 _=>rw[h]at h2;cases h2
 |more h2 _ _=>rw[h]at h2;cases h2
theorem aFw{t:T}(h:t.n≠1)(hk:t.kids[0]? =none):¬mR t:=fun hc=>by
 cases hc with
 |one _ h2=>exact h h2
 |more _ h2 _=>rw[hk]at h2;cases h2
theorem aAg{t k:T}(hl:iD t=true)(h:t.n≠1)(hk:t.kids[0]? =some k):mR t↔mR k:=by
 constructor
 ·intro hc;cases hc with
  |one _ h2=>exact absurd h2 h
  |more _ h2 h3=>rw[hk]at h2;cases h2;exact h3
 ·exact fun hc=>.more hl hk hc
noncomputable def aFu (ks:List T):Bool:=match ks with|[k]=>chB k|_=>false
inductive Sh' :T→Prop
 |mk {t:T} (h:t.s.size≤65536) (hk:∀k∈t.kids,Sh' k):Sh' t
theorem Sh'.s{t:T}(h:Sh' t):t.s.size≤65536:=by cases h;assumption
theorem Sh'.kid{t k:T}(h:Sh' t)(hk:k∈t.kids):Sh' k:=by
 cases h with
 |mk _ h=>exact h k hk
attribute [local irreducible] pP chB G GC GQ GA dV Calls IntKind.wrap Int.decLt Int.decLe
end
section
open Go.RowKit Go.Vcg
def rK(ps:List (T→Bool)):List ((T→Bool)×Int):=ps.map fun p=>(p,(0:Int))
def aDp:T→Bool:=eiT [gV,ofT [63]]
def UX(t:T):Bool:=
 if t.op=60 then oG [(eiT [aDp,ofT [40]],2),(ofT [64],1)] t.kids
 else if t.op=61 then oG [(ofT [62],2),(ofT [64],1)] t.kids
 else if t.op=62 then oG (rK [YW t,aDp]) t.kids
 else if t.op=63 then oG (rK [gV,TK]) t.kids
 else if t.op=64 then oG (rK [gV]) t.kids
 else false
attribute [local irreducible] oG G GC GQ GA dV Calls IntKind.wrap Int.decLt Int.decLe
end
section
open Go.RowKit Go.Vcg
noncomputable def aGn (t:T):Bool:=
 if t.n=0 then oG (rK [YW t,TK]) t.kids
 else if t.n=1 then oG (rK [YW t,aH7]) t.kids
 else if t.n=2 then oG (rK [YW t,aHw]) t.kids
 else if t.n=5 then oG (rK [YW t,aGt]) t.kids
 else if t.n=3 then oG (rK [sE]) t.kids
 else oG (rK [TK]) t.kids
attribute [local irreducible] oG G GC GQ GA dV Calls IntKind.wrap Int.decLt Int.decLe
end
section
open Go.RowKit Go.Vcg
attribute [local irreducible] oG aFo G GC GQ GA dV Calls IntKind.wrap Int.decLt Int.decLe
end
end Go.Proofs.YtknieidhopbngaaGreat
