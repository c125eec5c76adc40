/- Rules for walking Go code with an explicit symbolic state: the slots that are known, the memory of the call's own, the shared memory that does not change. -/
import Derived.Test.YtknieidhopbngaaGreatRows
import Derived.WalkKit
import Derived.WalkSpells
import Derived.WalkLawsBesides
import Derived.OrdersHeld
import Derived.Maps.AppendAt
namespace Go
theorem kY{α:Type _}{a:α}{l m:List α}:(a::l)++m=a::(l++m):=rfl
theorem jK{α:Type _}{l:List α}:[]++l=l:=rfl
theorem aK{α:Type _}{a:α}{l m:List α}(h:l.Sublist m):(a::l).Sublist (a::m):=.cons_cons a h
theorem aG{α:Type _}{a:α}{l m:List α}(h:l.Sublist m):l.Sublist (a::m):=.cons a h
theorem aU{α:Type _}{l:List α}:([]:List α).Sublist l:=List.nil_sublist l
theorem aS{α:Type _}{a b:α}{l:List α}(h:a∈l):a∈b::l:=List.mem_cons_of_mem b h
abbrev gM:= @Array.ext_getElem?
abbrev gL:= @Array.foldl_toList
abbrev hZ:= @Array.getElem?_append_left
abbrev eV:= @Array.getElem?_eq_none
abbrev cR:= @Array.getElem?_setIfInBounds_ne
abbrev cL:= @Array.getElem?_setIfInBounds_self_of_lt
abbrev gA:= @Array.length_toList
abbrev aM:= @Bool.and_eq_true
abbrev fV:= @Bool.and_false
abbrev eX:= @Bool.and_true
abbrev gP:= @Bool.false_and
abbrev cB:= @Bool.false_eq_true
abbrev jR:= @Bool.not_eq_true
abbrev lC:= @Bool.not_eq_true'
abbrev aY:= @Bool.or_eq_true
abbrev gC:= @Bool.or_false
abbrev eJ:= @Bool.true_and
abbrev jQ:= @ByteArray.size_append
abbrev cK:= @ByteArray.size_extract
abbrev mB:= @Except.ok.injEq
abbrev fU:= @Int.add_zero
abbrev gH:= @Int.le_refl
abbrev fG:= @Int.toNat_natCast
abbrev dN:= @List.Mem.head
abbrev eM:= @List.Pairwise.nil
abbrev aH:= @List.Sublist.refl
abbrev kQ:= @List.all_cons
abbrev fY:= @List.all_eq_true
abbrev iC:= @List.any_cons
abbrev bR:= @List.append_assoc
abbrev bP:= @List.append_nil
abbrev fZ:= @List.dropWhile_cons
abbrev cF:= @List.drop_drop
abbrev iJ:= @List.drop_eq_getElem_cons
abbrev cJ:= @List.drop_of_length_le
abbrev iL:= @List.drop_succ_cons
abbrev kK:= @List.drop_zero
abbrev dC:= @List.eq_nil_of_length_eq_zero
abbrev hX:= @List.exists_cons_of_ne_nil
abbrev lB:= @List.ext_getElem?
abbrev aD:= @List.flatMap_append
abbrev dA:= @List.flatMap_cons
abbrev lA:= @List.flatten_cons
abbrev iN:= @List.foldl_cons
abbrev cE:= @List.getD_eq_getElem?_getD
abbrev bY:= @List.getElem?_append_left
abbrev bQ:= @List.getElem?_append_right
abbrev eE:= @List.getElem?_drop
abbrev aI:= @List.getElem?_eq_getElem
abbrev dQ:= @List.getElem?_eq_none
abbrev iI:= @List.getElem?_eq_none_iff
abbrev eL:= @List.getElem?_map
abbrev cT:= @List.getElem?_take
abbrev jP:= @List.getElem?_toArray
abbrev jH:= @List.getElem_cons_drop
abbrev aB:= @List.length_append
abbrev aF:= @List.length_cons
abbrev bC:= @List.length_drop
abbrev fA:= @List.length_map
abbrev aL:= @List.length_nil
abbrev bZ:= @List.length_take
abbrev aE:= @List.map_append
abbrev kB:= @List.map_congr_left
abbrev bE:= @List.map_cons
abbrev cN:= @List.map_nil
abbrev bU:= @List.mem_append
abbrev cV:= @List.mem_append_left
abbrev cO:= @List.mem_append_right
abbrev aV:= @List.mem_cons
abbrev aA:= @List.mem_cons_self
abbrev aZ:= @List.mem_of_getElem?
abbrev bM:= @List.mem_singleton
abbrev bX:= @List.not_mem_nil
abbrev fD:= @List.perm_append_comm
abbrev eR:= @List.perm_middle
abbrev lZ:= @List.range_succ
abbrev iB:= @List.sum_cons
abbrev kZ:= @List.take_add_one
abbrev fC:= @List.take_append_drop
abbrev lM:= @List.take_length
abbrev dL:= @List.take_of_length_le
abbrev dM:= @List.take_succ_cons
abbrev fT:= @List.take_succ_eq_append_getElem
abbrev kP:= @Nat.add_assoc
abbrev lL:= @Nat.add_comm
abbrev dK:= @Nat.add_mul
abbrev iU:= @Nat.add_sub_cancel
abbrev cM:= @Nat.add_zero
abbrev cC:= @Nat.eq_of_beq_eq_true
abbrev gK:= @Nat.eq_zero_or_pos
abbrev lK:= @Nat.le_of_not_lt
abbrev aP:= @Nat.le_refl
abbrev bO:= @Nat.le_trans
abbrev dJ:= @Nat.lt_of_lt_of_le
abbrev jV:= @Nat.lt_or_ge
abbrev jY:= @Nat.min_eq_left
abbrev fS:= @Nat.mul_le_mul_right
abbrev jF:= @Nat.mul_one
abbrev mG:= @Nat.one_mul
abbrev iP:= @Nat.sub_self
abbrev lJ:= @Nat.sub_zero
abbrev dT:= @Nat.zero_add
abbrev cU:= @Nat.zero_le
abbrev jU:= @Nat.zero_mul
abbrev jX:= @Option.some.inj
abbrev aR:= @Option.some.injEq
abbrev iM:= @Or.resolve_left
abbrev cD:= @Prod.mk.injEq
end Go
set_option maxRecDepth 20000
namespace Go.Vcg
section
open Go.RowKit
abbrev Mem:=Nat→Option Obj
abbrev bG:=List (Nat×Value)
def lk:bG→Nat→Option Value
 |[],_=>none
 |(t,v)::r,k=>bif Nat.beq t k then some v else lk r k
def ev(l:bG):Operand→Option Value
 |.tmp t=>lk l t
 |.const v=>some v
 |.global g=>some (.pointer (some ⟨g,0,none⟩))
 |.func f=>some (.func (.func f) #[] #[])
structure Blk where
 b:Nat
 t:TypeId
 sz:Nat
 cs:bG
structure Rw where
 v:Value
 e:TypeId
 s:Nat
 n:Nat
 xs:List Value
structure Mp where
 b:Nat
 es:List MapEntry
 ck:Nat
inductive Bk
 |inl (x:Blk)
 |inr (r:Rw)
 |mp (m:Mp)
 |it (b:Nat) (m:Option Nat) (since:Nat) (seen:Array Nat) (c0:Nat)
def Bk.at:Bk→World→Prop
 |.inl x,w=>∃arr:Array Value,w.heap[x.b]? =some (.cells arr x.t (0,0))∧arr.size=x.sz∧∀i v,lk x.cs i=some v→arr[i]? =some v
 |.inr r,w=>w.ownsRow 0 r.e r.s r.v r.n r.xs
 |.mp m,w=>w.heap[m.b]? =some (.map m.es.toArray m.ck)
 |.it b m s x c,w=>w.heap[b]? =some (.mapIter m s x c)
def Bk.id:Bk→Option Nat
 |.inl x=>some x.b
 |.inr r=>r.v.ownBlock
 |.mp m=>some m.b
 |.it b _ _ _ _=>some b
theorem Bk.lt{x:Bk}{w:World}(h:Bk.at x w){b:Nat}(hb:Bk.id x=some b):b<w.heap.size:=by
 cases x with
 | inl x=>
   obtain⟨arr,a,_⟩:=h;cases hb;exact(Array.getElem?_eq_some_iff.1 a).1
 | inr r=>
   rcases h.2 with⟨hv,_⟩|⟨g,cap,cur,hv,_,a,_⟩
   ·simp[Bk.id,hv,Value.ownBlock]at hb
   ·simp[Bk.id,hv,Value.ownBlock]at hb;subst hb;exact(Array.getElem?_eq_some_iff.1 a).1
 | mp m=>
   cases hb;exact(Array.getElem?_eq_some_iff.1 h).1
 | it b m s x c=>
   cases hb;exact(Array.getElem?_eq_some_iff.1 h).1
theorem Bk.cW{x:Bk}{w w' :World}(h:Bk.at x w)(hk:∀b,Bk.id x=some b→w'.heap[b]? =w.heap[b]?):Bk.at x w' :=by
 cases x with
 | inl x=>
   obtain⟨arr,a,h2⟩:=h;exact⟨arr,(hk _ rfl).trans a,h2⟩
 | inr r=>
   refine⟨h.1,h.2.imp (fun h=>h) ?_⟩;rintro⟨g,cap,cur,hv,d,a,h3⟩;exact⟨g,cap,cur,hv,d,(hk g (by simp[Bk.id,hv,Value.ownBlock])).trans a,h3⟩
 |mp m=>exact(hk _ rfl).trans h
 |it b m s x c=>exact(hk _ rfl).trans h
structure Ctx where
 w0:World
 μ0:Mem
 M:List Nat
 n:Nat
def MLe(μ μ' :Mem):Prop:=∀b o,μ b=some o→μ' b=some o
def MOk(μ:Mem)(w:World):Prop:=∀b o,μ b=some o→w.heap[b]? =some o
theorem MLe.refl(μ:Mem):MLe μ μ:=fun _ _ h=>h
theorem MLe.trans{μ μ' μ'' :Mem}(h:MLe μ μ')(k:MLe μ' μ''):MLe μ μ'' :=fun b o e=>k b o (h b o e)
structure yH (M:List Nat) (w0 w:World):Prop where
 os:w.os=w0.os
 tape:w.tape=w0.tape
 output:w.output=w0.output
 size:w0.heap.size≤w.heap.size
 block:∀b,b<w0.heap.size→b∉M→w.heap[b]? =w0.heap[b]?
theorem yH.refl(M:List Nat)(w:World):yH M w w:=⟨rfl,rfl,rfl,aP _,fun _ _ _=>rfl⟩
theorem yH.below{w0 w:World}(h:yH [] w0 w):Below w0.heap.size w0 w:=
 ⟨h.os,h.tape,h.output,h.size,fun b hb=>h.block b hb (by simp)⟩
def Marks(X:Ctx)(μ:Mem)(ds:List Deferred):Prop:=
 ∃Ds:List Nat,ds=Ds.map (fun D=>{ target:=.collected D,args:= #[] })∧Ds.Nodup∧∀D∈Ds,2≤X.M.count D∧X.w0.heap.size≤D∧μ D=some (.deferred (some []))
theorem Marks.nil{X:Ctx}{μ:Mem}:Marks X μ []:=⟨[],rfl,List.nodup_nil,by simp⟩
theorem Marks.mono{X:Ctx}{μ μ' :Mem}{ds:List Deferred}(h:Marks X μ ds)(hle:MLe μ μ'):Marks X μ' ds:=by
 obtain⟨Ds,h1,h2,h3⟩:=h;exact⟨Ds,h1,h2,fun D a=>⟨(h3 D a).1,(h3 D a).2.1,hle _ _ (h3 D a).2.2⟩⟩
theorem Marks.none{X:Ctx}{μ:Mem}{ds:List Deferred}(h:Marks X μ ds)(a:∀D,X.M.count D≤1):ds=[]:=by
 obtain⟨Ds,h1,h2,h3⟩:=h;cases Ds with
 |nil=>exact h1
 | cons D r=>
   have h4:=(h3 D (by simp)).1;have h5:=a D;omega
structure St (X:Ctx) (μ:Mem) (l:bG) (L:List Bk) (a:Act) (w:World):Prop where
 size:a.tmps.size=X.n
 defers:Marks X μ a.defers
 slots:∀t v,lk l t=some v→a.tmps[t]? =some v
 cW:yH X.M X.w0 w
 mem:MOk μ w
 from0:MLe X.μ0 μ
 fresh:∀b,b<X.w0.heap.size→b∉X.M→X.μ0 b=none→μ b=none
 own:∀x∈L,Bk.at x w
 priv:∀x∈L,∀b,Bk.id x=some b→μ b=none
 new:∀x∈L,∀b,Bk.id x=some b→b∈X.M∨X.w0.heap.size≤b
 diff:L.Pairwise (fun x y=>∀b,Bk.id x=some b→Bk.id y≠some b)
structure Rd (μ:Mem) (l:bG) (L:List Bk) (a:Act) (w:World):Prop where
 slots:∀t v,lk l t=some v→a.tmps[t]? =some v
 mem:MOk μ w
 own:∀x∈L,Bk.at x w
theorem St.rd{X:Ctx}{μ:Mem}{l:bG}{L:List Bk}{a:Act}{w:World}(h:St X μ l L a w):Rd μ l L a w:=⟨h.slots,h.mem,h.own⟩
theorem Rd.eval{μ:Mem}{l:bG}{L:List Bk}{a:Act}{w:World}(h:Rd μ l L a w){x:Operand}{v:Value}(b:ev l x=some v):a.eval x=v:=by
 cases x with
 | tmp t=>
   have:=h.slots t v b;simp[Act.eval,this]
 |const u=>simpa[ev,Act.eval]using b
 |global g=>simpa[ev,Act.eval]using b
 |func f=>simpa[ev,Act.eval]using b
theorem St.eval{X:Ctx}{μ:Mem}{l:bG}{L:List Bk}{a:Act}{w:World}(h:St X μ l L a w){x:Operand}{v:Value}(b:ev l x=some v):a.eval x=v:=by
 cases x with
 | tmp t=>
   have:=h.slots t v b;simp[Act.eval,this]
 |const u=>simpa[ev,Act.eval]using b
 |global g=>simpa[ev,Act.eval]using b
 |func f=>simpa[ev,Act.eval]using b
theorem St.put{X:Ctx}{μ:Mem}{l:bG}{L:List Bk}{a:Act}{w:World}(h:St X μ l L a w){d:Nat}(hd:Nat.blt d X.n=true)(v:Value):
 St X μ ((d,v)::l) L (a.put (some d) v) w:=by
 have b:d<X.n:=by simp[Nat.blt]at hd;omega
 refine⟨by simp[Act.put,h.size],h.defers,fun t u hu=>?_,h.cW,h.mem,h.from0,h.fresh,h.own,h.priv,h.new,h.diff⟩;simp only[Act.put];by_cases e:d=t
 ·subst e;have:lk ((d,v)::l) d=some v:=by simp[lk]
  rw[this]at hu;cases hu;rw[cL (by rw[h.size];exact b)]
 ·have h2:lk ((d,v)::l) t=lk l t:=by
   have:Nat.beq d t=false:=by cases c:Nat.beq d t with
    |false=>rfl
    |true=>exact absurd (cC c) e
   simp[lk,this]
  rw[h2]at hu;rw[cR e];exact h.slots t u hu
theorem St.LQ{X:Ctx}{μ:Mem}{l:bG}{L:List Bk}{a:Act}{w:World}(h:St X μ l L a w)(v:Value):St X μ l L (a.put none v) w:=h
def G(P:Program)(X:Ctx)(ops:Array Oper)(Q:Exit→Act→World→Prop)(rest:List Oper)(μ:Mem)(l:bG)(L:List Bk):Prop:=
 ∀a w,St X μ l L a w→wpList P ops Q rest a w
def GC(P:Program)(X:Ctx)(c:Code)(Q:Exit→Act→World→Prop)(μ:Mem)(l:bG)(L:List Bk):Prop:=
 ∀a w,St X μ l L a w→c.wp P Q a w
def GQ(X:Ctx)(Q:Exit→Act→World→Prop)(e:Exit)(μ:Mem)(l:bG)(L:List Bk):Prop:=
 ∀a w,St X μ l L a w→Q e a w
section code
variable{P:Program}{X:Ctx}{Q:Exit→Act→World→Prop}{μ:Mem}{l:bG}{L:List Bk}
theorem pT{x y:Code}(h:GC P X x (Exit.then (y.wp P Q) Q) μ l L):GC P X (.seq x y) Q μ l L:=fun a w hs=>wp_seq (h a w hs)
theorem rV(h:GQ X Q .normal μ l L):GC P X .skip Q μ l L:=fun a w hs=>wp_skip (h a w hs)
theorem JQ{id:Nat}(h:GQ X Q (.exit id) μ l L):GC P X (.exit id) Q μ l L:=fun a w hs=>wp_exit (h a w hs)
theorem sG(h:GQ X Q .ret μ l L):GC P X .ret Q μ l L:=fun a w hs=>wp_ret (h a w hs)
theorem tA{id:Nat}{c:Code}(h:GC P X c (Exit.inBlock id Q) μ l L):GC P X (.block id c) Q μ l L:=fun a w hs=>wp_block (h a w hs)
theorem jD{id:Nat}{ops:List Oper}(h:G P X ops.toArray Q ops μ l L):GC P X (.region id ops.toArray false) Q μ l L:=fun a w hs=>wp_region_lit (h a w hs)
theorem rX{ops:Array Oper}(h:GQ X Q .normal μ l L):G P X ops Q [] μ l L:=fun a w hs=>h a w hs
theorem JR{c:Operand}{x y:Code}{b:Bool}(hc:ev l c=some (.bool b))(ht:b=true→GC P X x Q μ l L)(hf:b=false→GC P X y Q μ l L):
 GC P X (.cond c x y) Q μ l L:=fun a w hs=>
 wp_cond_split (hs.eval hc) (fun h=>ht h a w hs) (fun h=>hf h a w hs)
theorem mF{y:Code}(h:GC P X y Q μ l L):GQ X (Exit.then (y.wp P Q) Q) .normal μ l L:=h
theorem tY{K:Act→World→Prop}{i:Nat}(h:GQ X Q (.exit i) μ l L):GQ X (Exit.then K Q) (.exit i) μ l L:=h
theorem mK{K:Act→World→Prop}(h:GQ X Q .ret μ l L):GQ X (Exit.then K Q) .ret μ l L:=h
theorem lS{i:Nat}(h:GQ X Q .normal μ l L):GQ X (Exit.inBlock i Q) .normal μ l L:=h
theorem qD{i:Nat}(h:GQ X Q .ret μ l L):GQ X (Exit.inBlock i Q) .ret μ l L:=h
theorem sF{i:Nat}(h:GQ X Q .normal μ l L):GQ X (Exit.inBlock i Q) (.exit i) μ l L:=fun a w hs=>by
 show(if i=i then _ else _);rw[if_pos rfl];exact h a w hs
theorem EP{i j:Nat}(hij:Nat.beq j i=false)(h:GQ X Q (.exit j) μ l L):GQ X (Exit.inBlock i Q) (.exit j) μ l L:=fun a w hs=>by
 show(if j=i then _ else _);rw[if_neg (Nat.ne_of_beq_eq_false hij)];exact h a w hs
def aAs(X:Ctx){ι:Type}(J:ι→Prop)(m:ι→Nat)(μs:ι→Mem)(ls:ι→bG)(Ls:ι→List Bk)(i:ι)(a:Act)(w:World):Prop:=
 ∃j,J j∧m j<m i∧St X (μs j) (ls j) (Ls j) a w
theorem dH{c:Code}{ι:Type}(J:ι→Prop)(m:ι→Nat)(μs:ι→Mem)(ls:ι→bG)(Ls:ι→List Bk)(i0:ι)(y:J i0)
 (r:∀a w,St X μ l L a w→St X (μs i0) (ls i0) (Ls i0) a w)
 (round:∀i,J i→GC P X c (Exit.then (aAs X J m μs ls Ls i) Q) (μs i) (ls i) (Ls i)):GC P X (.loop c) Q μ l L:=by
 intro a w hs b k cs
 have key:∀n i a w,m i=n→J i→St X (μs i) (ls i) (Ls i) a w→
  ∃e a' w',Q e a' w' ∧Arrives P (lone (b.at a (.code c::.inLoop c::k)) cs w) b k cs e a' w' :=by
  intro n;induction n using Nat.strongRecOn with
  | _ n ih=>
    intro i a w hn hJ q;obtain⟨e,a₁,w₁,h,d⟩:=round i hJ a w q b (.inLoop c::k) cs;cases e with
    | normal=>
      obtain⟨j,v,u,p⟩:=h;obtain⟨e₂,a₂,w₂,o,g⟩:=ih (m j) (hn▸u) j a₁ w₁ rfl v p;exact⟨e₂,a₂,w₂,o,.of_steps (Steps.trans d (.one step_inLoop)) g⟩
    |exit id=>exact⟨_,a₁,w₁,h,.pass (x:=.inLoop c) rfl (fun _ _=>.inl (by simp)) d⟩
    |goto l=>exact⟨_,a₁,w₁,h,.pass (x:=.inLoop c) rfl (fun _ _=>.inl (by simp)) d⟩
    |ret=>exact⟨_,a₁,w₁,h,.pass (x:=.inLoop c) rfl (fun _ _=>.inl (by simp)) d⟩
    |panic ch=>exact⟨_,a₁,w₁,h,.pass (x:=.inLoop c) rfl (fun _ _=>.inl (by simp)) d⟩
    |outgrown=>exact⟨_,a₁,w₁,h,.pass (x:=.inLoop c) rfl (fun _ _=>.inl (by simp)) d⟩
 obtain⟨e,a',w',h,d⟩:=key _ i0 a w rfl y (r a w hs);exact⟨e,a',w',h,.of_steps (.one step_loop) d⟩
def pN(l' l:bG):Prop:=∀t v,lk l' t=some v→lk l t=some v
theorem eK{l:bG}:pN [] l:=fun t v h=>by simp[lk]at h
theorem cZ{t:Nat}{v:Value}{r l:bG}(h:lk l t=some v)(hr:pN r l):pN ((t,v)::r) l:=fun k u hu=>by
 by_cases e:t=k
 ·subst e;simp[lk]at hu;subst hu;exact h
 ·have:Nat.beq t k=false:=by cases a:Nat.beq t k with
   |false=>rfl
   |true=>exact absurd (cC a) e
  simp[lk,this]at hu;exact hr k u hu
theorem St.sub{X:Ctx}{μ:Mem}{l l' :bG}{L L' :List Bk}{a:Act}{w:World}(h:St X μ l L a w)(hl:pN l' l)(hL:L'.Sublist L):St X μ l' L' a w:=
 ⟨h.size,h.defers,fun t v hv=>h.slots t v (hl t v hv),h.cW,h.mem,h.from0,h.fresh,fun x b=>h.own x (hL.subset b),fun x b=>h.priv x (hL.subset b),fun x b=>h.new x (hL.subset b),h.diff.sublist hL⟩
theorem gG{ι:Type}{J:ι→Prop}{m:ι→Nat}{μs:ι→Mem}{ls:ι→bG}{Ls:ι→List Bk}{i:ι}(j:ι)(hJ:J j)(hm:m j<m i)(hμ:μs j=μ)(hl:pN (ls j) l)(hL:(Ls j).Sublist L):
 GQ X (Exit.then (aAs X J m μs ls Ls i) Q) .normal μ l L:=fun a w hs=>⟨j,hJ,hm,by rw[hμ];exact hs.sub hl hL⟩
end code
def dW(ops:Array Oper)(l:bG)(o:Oper):Option Bool:=
 match o.guard with
 |none=>some true
 | some (g,want)=>
   match ((ops[g]?).bind (·.dst)).bind (lk l ·)with
   |some (.bool b)=>some (b==want)
   |some _=>some false
   |none=>none
section ops
variable{P:Program}{X:Ctx}{ops:Array Oper}{Q:Exit→Act→World→Prop}{rest:List Oper}{μ:Mem}{l:bG}{L:List Bk}{a:Act}{w:World}{o:Oper}
theorem St.wanted(h:St X μ l L a w){b:Bool}(hw:dW ops l o=some b):Region.wanted o (yielded ops a.tmps)=b:=by
 unfold dW at hw;unfold Region.wanted;cases hg:o.guard with
 |none=>simp[hg]at hw;simp[hw]
 | some gw=>
   obtain⟨g,want⟩:=gw;simp only[hg]at hw⊢;cases hd:(ops[g]?).bind (·.dst)with
   |none=>simp[hd]at hw
   | some t=>
     simp only[hd,Option.bind_some]at hw;cases hl:lk l t with
     |none=>simp[hl]at hw
     | some u=>
       rw[hl]at hw;have:=h.slots t _ hl;cases u<;>simp at hw<;>simp[yielded,hd,this,←hw]
theorem aFi{d:Nat}(hd:o.dst=some d)(hn:Nat.blt d X.n=true)(hw:dW ops l o=some false)(h:G P X ops Q rest μ ((d,undef)::l) L):G P X ops Q (o::rest) μ l L:=by
 intro a w hs;unfold wpList;rw[if_neg (by rw[hs.wanted hw];simp),hd];exact h _ _ (hs.put hn _)
theorem BU(hw:dW ops l o=some true)(h:∀a w,St X μ l L a w→o.wp P a w (wpList P ops Q rest) Q):G P X ops Q (o::rest) μ l L:=by
 intro a w hs;unfold wpList;rw[if_pos (hs.wanted hw)];exact .inl (h a w hs)
def Val(P:Program)(μ:Mem)(l:bG)(L:List Bk)(o:Oper)(v:Value):Prop:=∀a w,Rd μ l L a w→(execOp a.eval o).run P w=.ok (.value v) w
def Ent(P:Program)(μ:Mem)(l:bG)(L:List Bk)(o:Oper)(f:FuncId)(vs:Array Value):Prop:=∀a w,Rd μ l L a w→(execOp a.eval o).run P w=.ok (.enter f vs) w
def Alc(P:Program)(μ:Mem)(l:bG)(L:List Bk)(o:Oper)(v:Nat→Value)(t:TypeId)(cs:List Value):Prop:=
 ∀a w,Rd μ l L a w→(execOp a.eval o).run P w=.ok (.value (v w.heap.size)) (w.alloc (.cells cs.toArray t))
theorem SY{d:Nat}{v:Value}(hd:o.dst=some d)(hn:Nat.blt d X.n=true)(hw:dW ops l o=some true)
 (hr:Val P μ l L o v)(h:G P X ops Q rest μ ((d,v)::l) L):G P X ops Q (o::rest) μ l L:=
 BU hw fun a w hs=>by unfold Oper.wp;rw[hr a w hs.rd,Oper.upon_value,hd];exact h _ _ (hs.put hn _)
theorem aCg{t:Nat}{b:Bool}(hl:lk l t=some (.bool b))(ht:b=true→G P X ops Q rest μ ((t,.bool true)::l) L)(hf:b=false→G P X ops Q rest μ ((t,.bool false)::l) L):G P X ops Q rest μ l L:=by
 intro a w hs;have c:=hs.slots t _ hl;have hn:Nat.blt t X.n=true:=by have:=(Array.getElem?_eq_some_iff.1 c).1;rw[hs.size]at this;simp[Nat.blt];omega
 have he:a.put (some t) (.bool b)=a:=by
  cases a;simp only[Act.put,Act.mk.injEq,and_true]at*;exact gM fun i=>by
   by_cases e:t=i
   ·subst e;rw[cL (Array.getElem?_eq_some_iff.1 c).1,c]
   ·rw[cR e]
 have hp:=hs.put hn (.bool b);rw[he]at hp;cases b
 ·exact hf rfl a w hp
 ·exact ht rfl a w hp
def wW(ops:Array Oper)(o:Oper):Option Nat:=o.guard.bind fun g=>(ops[g.1]?).bind (·.dst)
def uL(_:Bool):Prop:=True
theorem VI(b:Bool):uL b:=trivial
theorem aCj{t:Nat}{b:Bool}(_hg:wW ops o=some t)(hl:lk l t=some (.bool b))(_hb:uL b)(ht:b=true→G P X ops Q (o::rest) μ ((t,.bool true)::l) L)
 (hf:b=false→G P X ops Q (o::rest) μ ((t,.bool false)::l) L):G P X ops Q (o::rest) μ l L:=aCg hl ht hf
def sD:List Oper→Nat→Option Oper
 |[],_=>none
 |x::_,0=>some x
 |_::r,i+1=>sD r i
theorem SM:∀(l:List Oper) (i:Nat),sD l i=l[i]?
 |[],_=>by simp[sD]
 |x::r,0=>by simp[sD]
 |x::r,i+1=>by simp[sD,SM r i]
def jO:List Bk→Nat→Option Bk
 |[],_=>none
 |x::_,0=>some x
 |_::r,i+1=>jO r i
def nQ:List Bk→Nat→Bk→List Bk
 |[],_,_=>[]
 |_::r,0,y=>y::r
 |x::r,i+1,y=>x::nQ r i y
theorem fB{x:Bk}:∀{L:List Bk} {i:Nat},jO L i=some x→x∈L
 |[],_,h=>by simp[jO]at h
 |y::r,0,h=>by simp[jO]at h;simp[h]
 |y::r,i+1,h=>aS (fB (i:=i) (by simpa[jO]using h))
theorem Rd.cell(h:Rd μ l L a w){x:Blk}(c: .inl x∈L){i:Nat}{v:Value}(hv:lk x.cs i=some v):w.cell? ⟨x.b,i,none⟩=some v:=by
 obtain⟨arr,d,_,ha⟩:=h.own _ c;simp[World.cell?,d,ha i v hv]
def oM(μ:Mem)(A:Addr)(v:Value):Prop:=∃c t f,μ A.block=some (.cells c t f)∧A.spot=none∧c[A.off]? =some v
def iK(μ:Mem)(A:Addr)(vs:List Value):Prop:=∀j v,vs[j]? =some v→oM μ (A.add j) v
theorem Rd.YR(h:Rd μ l L a w){A:Addr}{v:Value}(hm:oM μ A v):w.cell? A=some v:=by
 obtain⟨c,t,f,h1,h2,h3⟩:=hm;simp[World.cell?,h.mem _ _ h1,h2,h3]
def pM(P:Program)(t:TypeId):Option Bool:=
 match P.underlying t with
 |some (.struct _)=>some true
 |some (.array _ _)=>some true
 |some _=>some false
 |none=>none
def vJ{α:Type}(x:Nat)(k:Nat→α):α:=match x with
 |0=>k 0|1=>k 1|2=>k 2|3=>k 3|4=>k 4|5=>k 5|6=>k 6|7=>k 7|8=>k 8|9=>k 9|10=>k 10|11=>k 11|12=>k 12|13=>k 13|14=>k 14|15=>k 15|16=>k 16|17=>k 17|18=>k 18|19=>k 19|20=>k 20|21=>k 21|22=>k 22|23=>k 23|24=>k 24|25=>k 25|26=>k 26|27=>k 27|28=>k 28|29=>k 29|30=>k 30|31=>k 31|32=>k 32|33=>k 33|34=>k 34|35=>k 35|36=>k 36|37=>k 37|38=>k 38|39=>k 39|40=>k 40|41=>k 41|42=>k 42|43=>k 43|44=>k 44|45=>k 45|46=>k 46|47=>k 47|48=>k 48|n+49=>k (n+49)
theorem sW{α:Type}(x:Nat)(k:Nat→α):vJ x k=k x:=by
 unfold vJ;split<;>rfl
def gW(P:Program)(t:TypeId):Option Nat:=match P.info? t with|some i=>vJ i.size some|none=>none
def qR(P:Program)(t:TypeId):Option Value:=(P.info? t).bind (·.zero)
theorem zR{b:Bool}{t:TypeId}(h:pM P t=some b)(w:World):(isAgg t).run P w=.ok b w:=by
 unfold pM at h;cases hu:P.underlying t with
 |none=>simp[hu]at h
 |some d=>cases d<;>simp[hu]at h<;>simp[isAgg,run_underlying hu,h]
theorem run_sizeOf{t:TypeId}{n:Nat}(h:gW P t=some n)(w:World):(sizeOf t).run P w=.ok n w:=by
 unfold gW at h;cases hi:P.info? t with
 |none=>simp[hi]at h
 |some i=>simp[hi,sW]at h;simp[sizeOf,typeInfo,hi,h]
theorem oX{t:TypeId}{v:Value}(h:qR P t=some v)(w:World):(zeroValue t).run P w=.ok v w:=by
 unfold qR at h;cases hi:P.info? t with
 |none=>simp[hi]at h
 |some i=>simp[hi]at h;simp[zeroValue,typeInfo,hi,h]
theorem qU{t:TypeId}{A:Addr}{v:Value}(a:pM P t=some false)(hc:w.cell? A=some v):(Instr.loadAt t (.pointer (some A))).run P w=.ok v w:=by
 simp[Instr.loadAt,Instr.sureAddr,loadVar,zR a,hc]
theorem rS{t:TypeId}{A:Addr}(vs:List Value)(b:pM P t=some true)(a:gW P t=some vs.length)(hc:∀j v,vs[j]? =some v→w.cell? (A.add j)=some v):
 (Instr.loadAt t (.pointer (some A))).run P w=.ok (.agg vs.toArray) w:=by
 simp[Instr.loadAt,Instr.sureAddr,loadVar,zR b,run_sizeOf a,run_loadCells_list w A vs hc]
end ops
end
section
open Go.RowKit
section
variable{P:Program}{X:Ctx}{ops:Array Oper}{Q:Exit→Act→World→Prop}{rest:List Oper}{μ:Mem}{l:bG}{L:List Bk}{a:Act}{w:World}{o:Oper}
variable{d:Nat}{ds:Option Nat}{ty:TypeId}{pos:String}{af:Array Edge}{gd:Option (Nat×Bool)}
theorem aD2{x:Operand}{v:Value}(hx0:ev l x=some (v))  :Val P μ l L ⟨ds,.move x,ty,pos,af,gd⟩ (v):=
 fun a w hs=>by have e0:=hs.eval hx0;generalize a.eval=ρ at e0;simp[execOp,e0]
theorem WU{x:Operand}{v:Value}(hx0:ev l x=some (v))  :Val P μ l L ⟨ds,.assign x,ty,pos,af,gd⟩ (v):=
 fun a w hs=>by have e0:=hs.eval hx0;generalize a.eval=ρ at e0;simp[execOp,e0]
theorem zM{x:Operand}{v:Value}{t:TypeId}{A:Addr}(b:ev l x=some (.pointer (some A)))
 (hr:∀a w,Rd μ l L a w→(Instr.loadAt t (.pointer (some A))).run P w=.ok v w):Val P μ l L ⟨ds,.load t x,ty,pos,af,gd⟩ v:=
 fun a w hs=>by have e:=hs.eval b;have r:=hr a w hs;generalize a.eval=ρ at e;simp[execOp,e,r]
theorem NV{x:Operand}{v:Value}{t:TypeId}{off:Nat}{y:Blk}(i:Nat)(a:pM P t=some false)
 (hi:jO L i=some (.inl y))(c:ev l x=some (.pointer (some ⟨y.b,off,none⟩)))(hv:lk y.cs off=some v):Val P μ l L ⟨ds,.load t x,ty,pos,af,gd⟩ v:=
 zM c (fun _ _ hs=>qU a (hs.cell (fB (i:=i) hi) hv))
theorem qJ{x:Operand}{v:Value}{t:TypeId}{A:Addr}(a:pM P t=some false)
 (b:ev l x=some (.pointer (some A)))(hm:oM μ A v):Val P μ l L ⟨ds,.load t x,ty,pos,af,gd⟩ v:=
 zM b (fun _ _ hs=>qU a (hs.YR hm))
theorem NU{x:Operand}{t:TypeId}{A:Addr}{n:Nat}{vs:List Value}(b:pM P t=some true)
 (a:gW P t=some n)(c:ev l x=some (.pointer (some A)))(hm:iK μ A vs)(hl:vs.length=n):Val P μ l L ⟨ds,.load t x,ty,pos,af,gd⟩ (.agg vs.toArray):=
 zM c (fun _ _ hs=>rS vs b (hl▸a) (fun j v hv=>hs.YR (hm j v hv)))
theorem WO{c x y:Operand}{v:Value}(hx0:ev l c=some (.bool true))(hx1:ev l x=some (v))  :Val P μ l L ⟨ds,.pick c x y,ty,pos,af,gd⟩ (v):=
 fun a w hs=>by have e0:=hs.eval hx0;have e1:=hs.eval hx1;generalize a.eval=ρ at e0 e1;simp[execOp,e0,e1,asBool]
theorem WQ{c x y:Operand}{v:Value}(hx0:ev l c=some (.bool false))(hx1:ev l y=some (v))  :Val P μ l L ⟨ds,.pick c x y,ty,pos,af,gd⟩ (v):=
 fun a w hs=>by have e0:=hs.eval hx0;have e1:=hs.eval hx1;generalize a.eval=ρ at e0 e1;simp[execOp,e0,e1,asBool]
theorem aC8{p q:Operand}{t t2:TypeId}{k:IntKind}{x y:Int}(hx0:ev l p=some (.int k x))(hx1:ev l q=some (.int k y))  :Val P μ l L ⟨ds,.binOp .add t p q t2,ty,pos,af,gd⟩ (.int k (k.wrap (x+y))):=
 fun a w hs=>by have e0:=hs.eval hx0;have e1:=hs.eval hx1;generalize a.eval=ρ at e0 e1;simp[execOp,e0,e1,eqGuard,binOp,Op.intArith]
theorem aA4{p q:Operand}{t t2:TypeId}{x y:Int}(hx0:ev l p=some (.int .i64 x))(hx1:ev l q=some (.int .i64 y))
 (hb: -9223372036854775808≤x+y∧x+y≤9223372036854775807):Val P μ l L ⟨ds,.binOp .add t p q t2,ty,pos,af,gd⟩ (.int .i64 (x+y)):=by
 have:=aC8 (P:=P) (μ:=μ) (L:=L) (ds:=ds) (ty:=ty) (pos:=pos) (af:=af) (gd:=gd) (t:=t) (t2:=t2) hx0 hx1;rwa[IntWalk.i64_in _ hb]at this
theorem aC7{p q:Operand}{t t2:TypeId}{k:IntKind}{x y:Int}(hx0:ev l p=some (.int k x))(hx1:ev l q=some (.int k y))  :Val P μ l L ⟨ds,.binOp .sub t p q t2,ty,pos,af,gd⟩ (.int k (k.wrap (x-y))):=
 fun a w hs=>by have e0:=hs.eval hx0;have e1:=hs.eval hx1;generalize a.eval=ρ at e0 e1;simp[execOp,e0,e1,eqGuard,binOp,Op.intArith]
theorem aAw{p q:Operand}{t t2:TypeId}{x y:Int}(hx0:ev l p=some (.int .i64 x))(hx1:ev l q=some (.int .i64 y))
 (hb: -9223372036854775808≤x-y∧x-y≤9223372036854775807):Val P μ l L ⟨ds,.binOp .sub t p q t2,ty,pos,af,gd⟩ (.int .i64 (x-y)):=by
 have:=aC7 (P:=P) (μ:=μ) (L:=L) (ds:=ds) (ty:=ty) (pos:=pos) (af:=af) (gd:=gd) (t:=t) (t2:=t2) hx0 hx1;rwa[IntWalk.i64_in _ hb]at this
theorem aF6{p q:Operand}{t t2:TypeId}{k:IntKind}{x y:Int}(hx0:ev l p=some (.int k x))(hx1:ev l q=some (.int k y))  :Val P μ l L ⟨ds,.binOp .mul t p q t2,ty,pos,af,gd⟩ (.int k (k.wrap (x*y))):=
 fun a w hs=>by have e0:=hs.eval hx0;have e1:=hs.eval hx1;generalize a.eval=ρ at e0 e1;simp[execOp,e0,e1,eqGuard,binOp,Op.intArith]
theorem aAy{p q:Operand}{t t2:TypeId}{x y:Int}(hx0:ev l p=some (.int .i64 x))(hx1:ev l q=some (.int .i64 y))
 (hb: -9223372036854775808≤x*y∧x*y≤9223372036854775807):Val P μ l L ⟨ds,.binOp .mul t p q t2,ty,pos,af,gd⟩ (.int .i64 (x*y)):=by
 have:=aF6 (P:=P) (μ:=μ) (L:=L) (ds:=ds) (ty:=ty) (pos:=pos) (af:=af) (gd:=gd) (t:=t) (t2:=t2) hx0 hx1;rwa[IntWalk.i64_in _ hb]at this
theorem QE(x y:Int):(x==y)=decide (x=y):=rfl
theorem QO(x y:Int):(x !=y)=decide (x≠y):=by by_cases h:x=y<;>simp[h]
theorem IE(s t:ByteArray):(s.toList==t.toList)=decide (s=t):=by
 by_cases h:s=t
 ·simp[h]
 ·have:s.toList≠t.toList:=fun e=>h (by
   rw[Go.ByteArray.toList_eq,Go.ByteArray.toList_eq]at e;exact ByteArray.ext (Array.toList_inj.mp e))
  simp[h,this]
theorem aF7{p q:Operand}{t t2:TypeId}{k:IntKind}{x y:Int}(hx0:ev l p=some (.int k x))(hx1:ev l q=some (.int k y))  :Val P μ l L ⟨ds,.binOp .lss t p q t2,ty,pos,af,gd⟩ (.bool (decide (x<y))):=
 fun a w hs=>by have e0:=hs.eval hx0;have e1:=hs.eval hx1;generalize a.eval=ρ at e0 e1;simp[execOp,e0,e1,eqGuard,binOp,Op.intCmp]
theorem aF8{p q:Operand}{t t2:TypeId}{k:IntKind}{x y:Int}(hx0:ev l p=some (.int k x))(hx1:ev l q=some (.int k y))  :Val P μ l L ⟨ds,.binOp .leq t p q t2,ty,pos,af,gd⟩ (.bool (decide (x≤y))):=
 fun a w hs=>by have e0:=hs.eval hx0;have e1:=hs.eval hx1;generalize a.eval=ρ at e0 e1;simp[execOp,e0,e1,eqGuard,binOp,Op.intCmp]
theorem aF9{p q:Operand}{t t2:TypeId}{k:IntKind}{x y:Int}(hx0:ev l p=some (.int k x))(hx1:ev l q=some (.int k y))  :Val P μ l L ⟨ds,.binOp .gtr t p q t2,ty,pos,af,gd⟩ (.bool (decide (y<x))):=
 fun a w hs=>by have e0:=hs.eval hx0;have e1:=hs.eval hx1;generalize a.eval=ρ at e0 e1;simp[execOp,e0,e1,eqGuard,binOp,Op.intCmp]
theorem aGa{p q:Operand}{t t2:TypeId}{k:IntKind}{x y:Int}(hx0:ev l p=some (.int k x))(hx1:ev l q=some (.int k y))  :Val P μ l L ⟨ds,.binOp .geq t p q t2,ty,pos,af,gd⟩ (.bool (decide (y≤x))):=
 fun a w hs=>by have e0:=hs.eval hx0;have e1:=hs.eval hx1;generalize a.eval=ρ at e0 e1;simp[execOp,e0,e1,eqGuard,binOp,Op.intCmp]
theorem aGb{p q:Operand}{t t2:TypeId}{k:IntKind}{x y:Int}(hx0:ev l p=some (.int k x))(hx1:ev l q=some (.int k y))  :Val P μ l L ⟨ds,.binOp .eql t p q t2,ty,pos,af,gd⟩ (.bool (decide (x=y))):=
 fun a w hs=>by have e0:=hs.eval hx0;have e1:=hs.eval hx1;generalize a.eval=ρ at e0 e1;simp[execOp,e0,e1,eqGuard,binOp,Op.intCmp,QE]
theorem aF5{p q:Operand}{t t2:TypeId}{k:IntKind}{x y:Int}(hx0:ev l p=some (.int k x))(hx1:ev l q=some (.int k y))  :Val P μ l L ⟨ds,.binOp .neq t p q t2,ty,pos,af,gd⟩ (.bool (decide (x≠y))):=
 fun a w hs=>by have e0:=hs.eval hx0;have e1:=hs.eval hx1;generalize a.eval=ρ at e0 e1;simp[execOp,e0,e1,eqGuard,binOp,Op.intCmp,QO]
theorem RE{p q:Operand}{t t2:TypeId}{k:IntKind}{x y:Int}(hx0:ev l p=some (.int k x))(hx1:ev l q=some (.int k y))(b:y≠0):Val P μ l L ⟨ds,.binOp .quo t p q t2,ty,pos,af,gd⟩ (.int k (k.wrap (x.tdiv y))):=
 fun a w hs=>by have e0:=hs.eval hx0;have e1:=hs.eval hx1;generalize a.eval=ρ at e0 e1;simp[execOp,e0,e1,eqGuard,binOp,Op.intDiv,b]
theorem WN{p q:Operand}{t t2:TypeId}{k:IntKind}{x y:Int}(hx0:ev l p=some (.int k x))(hx1:ev l q=some (.int k y))(b:y≠0):Val P μ l L ⟨ds,.binOp .rem t p q t2,ty,pos,af,gd⟩ (.int k (x.tmod y)):=
 fun a w hs=>by have e0:=hs.eval hx0;have e1:=hs.eval hx1;generalize a.eval=ρ at e0 e1;simp[execOp,e0,e1,eqGuard,binOp,Op.intDiv,b]
theorem aD1{p q:Operand}{t t2:TypeId}{x y:ByteArray}(hx0:ev l p=some (.string x))(hx1:ev l q=some (.string y))  :Val P μ l L ⟨ds,.binOp .eql t p q t2,ty,pos,af,gd⟩ (.bool (decide (x=y))):=
 fun a w hs=>by have e0:=hs.eval hx0;have e1:=hs.eval hx1;generalize a.eval=ρ at e0 e1;simp[execOp,e0,e1,eqGuard,binOp,Op.stringOp,IE]
theorem aD0{p q:Operand}{t t2:TypeId}{x y:ByteArray}(hx0:ev l p=some (.string x))(hx1:ev l q=some (.string y))  :Val P μ l L ⟨ds,.binOp .neq t p q t2,ty,pos,af,gd⟩ (.bool (decide (x≠y))):=
 fun a w hs=>by have e0:=hs.eval hx0;have e1:=hs.eval hx1;generalize a.eval=ρ at e0 e1;simp[execOp,e0,e1,eqGuard,binOp,Op.stringOp,IE]
theorem XG(x y:ByteArray)(hb:x.size+y.size≤9223372036854775807)(w:World):(Op.stringOp .add x y).run P w=.ok (.string (x++y)) w:=by
 have hm:IntKind.i64.max=9223372036854775807:=by decide
 have a:¬((x.size+y.size:Nat):Int)>IntKind.i64.max:=by omega
 simp only[Op.stringOp,if_neg a,Sem.run_pure]
theorem iG{p q:Operand}{t t2:TypeId}{x y:ByteArray}(hx0:ev l p=some (.string x))(hx1:ev l q=some (.string y))(hb:x.size+y.size≤9223372036854775807):Val P μ l L ⟨ds,.binOp .add t p q t2,ty,pos,af,gd⟩ (.string (x++y)):=
 fun a w hs=>by have e0:=hs.eval hx0;have e1:=hs.eval hx1;generalize a.eval=ρ at e0 e1;simp[execOp,e0,e1,eqGuard,binOp,XG x y hb]
theorem aF4{p:Operand}{t:TypeId}{b:Bool}(hx0:ev l p=some (.bool b))  :Val P μ l L ⟨ds,.unOp .not t p,ty,pos,af,gd⟩ (.bool (!b)):=
 fun a w hs=>by have e0:=hs.eval hx0;generalize a.eval=ρ at e0;simp[execOp,e0,Op.unary]
theorem WT{p:Operand}{t u:TypeId}{k k2:IntKind}{x:Int}{de:TypeDesc}(hx0:ev l p=some (.int k x))(ht:P.underlying t=some de)(hu:P.underlying u=some (.int k2)):Val P μ l L ⟨ds,.convert t u p,ty,pos,af,gd⟩ (.int k2 (k2.wrap x)):=
 fun a w hs=>by have e0:=hs.eval hx0;generalize a.eval=ρ at e0;simp[execOp,e0,convert,run_underlying ht,run_underlying hu,Conv.intToInt]
def JG:List Value→Nat→Option Value
 |[],_=>none
 |x::_,0=>some x
 |_::r,i+1=>JG r i
theorem CO:∀(l:List Value) (i:Nat),JG l i=l[i]?
 |[],_=>by simp[JG]
 |x::r,0=>by simp[JG]
 |x::r,i+1=>by simp[JG,CO r i]
theorem UF{p:Operand}{i:Nat}{vs:List Value}{v:Value}(hx0:ev l p=some (.tuple vs.toArray))(hv:JG vs i=some v):Val P μ l L ⟨ds,.extract p i,ty,pos,af,gd⟩ v:=fun a w hs=>by
 rw[CO]at hv;have e0:=hs.eval hx0;generalize a.eval=ρ at e0;simp[execOp,e0,Instr.extract,hv]
theorem NT{p:Operand}{A:Addr}(hx0:ev l p=some (.pointer (some A)))  :Val P μ l L ⟨ds,.nilCheck p,ty,pos,af,gd⟩ (.pointer (some A)):=
 fun a w hs=>by have e0:=hs.eval hx0;generalize a.eval=ρ at e0;simp[execOp,e0]
theorem aAz{p:Operand}{t:TypeId}{s:ByteArray}(hx0:ev l p=some (.string s))(ht:P.underlying t=some .string):Val P μ l L ⟨ds,.call { callee:=.builtin .len,args:= #[p],argTypes:= #[t] },ty,pos,af,gd⟩ (.int .i64 s.size):=
 fun a w hs=>by have e0:=hs.eval hx0;generalize a.eval=ρ at e0;simp[execOp,e0,resolve,invoke,builtin,Builtin.len_,run_underlying ht,goInt]
theorem aA0{p:Operand}{t e:TypeId}{A:Option Addr}{n c:Nat}(hx0:ev l p=some (.slice A n c))(ht:P.underlying t=some (.slice e)):Val P μ l L ⟨ds,.call { callee:=.builtin .len,args:= #[p],argTypes:= #[t] },ty,pos,af,gd⟩ (.int .i64 n):=
 fun a w hs=>by have e0:=hs.eval hx0;generalize a.eval=ρ at e0;simp[execOp,e0,resolve,invoke,builtin,Builtin.len_,run_underlying ht,goInt]
theorem DL{A:Addr}{f:Field}{n:Nat}(hs:gW P f.type=some (n+1))(w:World):(fieldPlace A f).run P w=.ok (A.add f.offset) w:=by
 simp[fieldPlace,run_sizeOf hs]
def EX(P:Program)(t:TypeId)(i:Nat):Option (Nat×Nat):=
 match P.underlying t with
 | some (.struct fs)=>match fs[i]? with
   | some f=>match gW P f.type with
     |some (_+1)=>vJ f.offset (fun o=>some (0,o))
     |_=>none
   |none=>none
 |_=>none
theorem AW{A:Addr}{t:TypeId}{i ft off:Nat}(hf:EX P t i=some (ft,off))(w:World):(Instr.fieldAt t (.pointer (some A)) i).run P w=.ok (.pointer (some (A.add off))) w:=by
 unfold EX at hf;cases hu:P.underlying t with
 |none=>simp[hu]at hf
 | some de=>
   cases de<;>simp[hu]at hf;rename_i fs;cases a:fs[i]? with
   |none=>simp[a]at hf
   | some f=>
     simp only[a]at hf;cases hs:gW P f.type with
     |none=>simp[hs]at hf
     | some n=>
       cases n with
       |zero=>simp[hs]at hf
       | succ n=>
         simp[hs,sW]at hf;simp[Instr.fieldAt,run_underlying hu,a,Instr.sureAddr,DL hs,hf.2]
theorem add_lit(b off n:Nat):(⟨b,off,none⟩:Addr).add n=⟨b,off+n,none⟩:=by unfold Addr.add;split<;>simp_all
theorem rN(A:Addr)(i j:Nat):(A.add i).add j=A.add (i+j):=by
 unfold Addr.add;by_cases hi:i=0<;>by_cases a:j=0<;>simp[hi,a,kP]
theorem KK{p:Operand}{t:TypeId}{i ft off b k:Nat}(hx0:ev l p=some (.pointer (some ⟨b,k,none⟩)))(hf:EX P t i=some (ft,off)):Val P μ l L ⟨ds,.fieldAddr t p i,ty,pos,af,gd⟩ (.pointer (some ⟨b,k+off,none⟩)):=
 fun a w hs=>by have e0:=hs.eval hx0;generalize a.eval=ρ at e0;simp[execOp,e0,AW hf,add_lit]
theorem LA{t e:TypeId}{A:Addr}{len cap n k:Nat}(ht:P.underlying t=some (.slice e))(hs:gW P e=some n)(hk:k<len)(w:World):
 (Instr.indexAt t (.slice (some A) len cap) (.int .i64 (k:Int))).run P w=.ok (.pointer (some (A.add (k*n)))) w:=by
 have h1:(0:Int)≤(k:Int)∧(k:Int)< (len:Int):=by omega
 simp[Instr.indexAt,asIntOf,run_underlying ht,run_sizeOf hs,hk]
theorem aA2{p q:Operand}{t e:TypeId}{A:Addr}{len cap n:Nat}{i:Int}(k:Nat)(ht:P.underlying t=some (.slice e))(hs:gW P e=some n)
 (hx0:ev l p=some (.slice (some A) len cap))(hx1:ev l q=some (.int .i64 i))(hi:i=(k:Int))(hk:k<len):Val P μ l L ⟨ds,.indexAddr t p q,ty,pos,af,gd⟩ (.pointer (some (A.add (k*n)))):=
 fun a w b=>by have e0:=b.eval hx0;have e1:=b.eval hx1;generalize a.eval=ρ at e0 e1;subst hi;simp[execOp,e0,e1,LA ht hs hk]
def LC(cs:bG):Nat→Nat→List Value→Prop
 |_,0,[]=>True
 |off,s+1,v::vs=>lk cs off=some v∧LC cs (off+1) s vs
 |_,_,_=>False
theorem bH{cs:bG}{off:Nat}:LC cs off 0 []:=trivial
theorem bA{cs:bG}{off s:Nat}{v:Value}{vs:List Value}(h:lk cs off=some v)(hr:LC cs (off+1) s vs):LC cs off (s+1) (v::vs):=⟨h,hr⟩
theorem LC.len{cs:bG}:∀{s off:Nat} {vs:List Value},LC cs off s vs→vs.length=s
 |0,_,[],_=>rfl
 |0,_,_::_,h=>by simp[LC]at h
 |s+1,_,[],h=>by simp[LC]at h
 |s+1,_,_::_,h=>by simp[LC.len h.2]
theorem LC.get{cs:bG}:∀{s off:Nat} {vs:List Value},LC cs off s vs→∀j v,vs[j]? =some v→lk cs (off+j)=some v
 |0,_,[],_,j,v,a=>by simp at a
 |0,_,_::_,h,_,_,_=>by simp[LC]at h
 |s+1,_,[],h,_,_,_=>by simp[LC]at h
 |s+1,off,u::vs,h,0,v,a=>by simp at a;subst a;exact h.1
 | s+1,off,u::vs,h,j+1,v,a=>by have:=LC.get h.2 j v (by simpa using a);rwa[show off+ (j+1)=off+1+j by omega]
theorem NW{x:Operand}{t:TypeId}{off s:Nat}{y:Blk}{vs:List Value}(i:Nat)(c:pM P t=some true)(a:gW P t=some s)
 (hi:jO L i=some (.inl y))(d:ev l x=some (.pointer (some ⟨y.b,off,none⟩)))(hc:LC y.cs off s vs):Val P μ l L ⟨ds,.load t x,ty,pos,af,gd⟩ (.agg vs.toArray):=
 zM d (fun _ _ hs=>rS vs c (by rw[hc.len];exact a) (fun j v hv=>by rw[add_lit];exact hs.cell (fB (i:=i) hi) (hc.get j v hv)))
def idx:Nat→List Value→bG
 |_,[]=>[]
 |i,v::r=>(i,v)::idx (i+1) r
theorem FM{i j:Nat}(h:i≠j):Nat.beq i j=false:=by
 cases a:Nat.beq i j with
 |false=>rfl
 |true=>exact absurd (cC a) h
theorem vN:∀(vs:List Value) (i k:Nat) (v:Value),lk (idx i vs) k=some v→i≤k∧vs[k-i]? =some v
 |[],i,k,v,h=>by simp[idx,lk]at h
 | u::r,i,k,v,h=>by
   by_cases e:i=k
   ·subst e;simp[idx,lk]at h;simp[h]
   ·simp[idx,lk,FM e]at h;obtain⟨h1,h2⟩:=vN r (i+1) k v h;refine⟨by omega,?_⟩;have:k-i=(k- (i+1))+1:=by omega
    rw[this];simpa using h2
theorem AA:∀(vs:List Value) (i j:Nat) (v:Value),vs[j]? =some v→lk (idx i vs) (i+j)=some v
 |[],i,j,v,h=>by simp at h
 |u::r,i,0,v,h=>by simp at h;simp[idx,lk,h]
 | u::r,i,j+1,v,h=>by have:=AA r (i+1) j v (by simpa using h);rw[show i+ (j+1)=i+1+j by omega];simp[idx,lk,FM (show i≠i+1+j by omega),this]
theorem St.alloc(h:St X μ l L a w)(t:TypeId)(cs:List Value):St X μ l (.inl ⟨w.heap.size,t,cs.length,idx 0 cs⟩::L) a (w.alloc (.cells cs.toArray t)):=by
 have hold:∀b,b<w.heap.size→(w.alloc (.cells cs.toArray t)).heap[b]? =w.heap[b]? :=fun b hb=>Below.heap_alloc w _ b hb;have d:∀x∈L,∀b,Bk.id x=some b→b<w.heap.size:=fun x c b hb=>Bk.lt (h.own x c) hb;refine⟨h.size,h.defers,h.slots,⟨h.cW.os,h.cW.tape,h.cW.output,bO h.cW.size (by simp),fun b hb k=>?_⟩,fun b o hb=>?_,h.from0,h.fresh,fun x c=>?_,fun x c b hb=>?_,fun x c b hb=>?_,?_⟩
 ·rw[hold b (dJ hb h.cW.size)];exact h.cW.block b hb k
 ·have:=h.mem b o hb;rw[hold b (Array.getElem?_eq_some_iff.1 this).1];exact this
 ·rcases aV.1 c with rfl|c
  ·refine⟨cs.toArray,heap_alloc_new w _,by simp,fun i v hv=>?_⟩;have:=vN cs 0 i v hv;simpa using this.2
  ·exact Bk.cW (h.own x c) (fun b hb=>hold b (d x c b hb))
 ·rcases aV.1 c with rfl|c
  ·cases hb;cases hm:μ w.heap.size with
   |none=>rfl
   | some o=>
     have:=(Array.getElem?_eq_some_iff.1 (h.mem _ _ hm)).1;omega
  ·exact h.priv x c b hb
 ·rcases aV.1 c with rfl|c
  ·cases hb;exact .inr h.cW.size
  ·exact h.new x c b hb
 ·refine List.pairwise_cons.2 ⟨fun y j b hb g=>?_,h.diff⟩;have h1:=d y j b g;have h2:w.heap.size=b:=jX hb;omega
theorem aDr{v:Nat→Value}{t:TypeId}{cs:List Value}(hd:o.dst=some d)(hn:Nat.blt d X.n=true)(hw:dW ops l o=some true)
 (hr:Alc P μ l L o v t cs){n:Nat}(hl:vJ cs.length some=some n)(h:∀b,G P X ops Q rest μ ((d,v b)::l) (.inl ⟨b,t,n,idx 0 cs⟩::L)):G P X ops Q (o::rest) μ l L:=
 BU hw fun a w hs=>by unfold Oper.wp;rw[hr a w hs.rd,Oper.upon_value,hd];rw[sW]at hl;cases hl;exact h _ _ _ ((hs.alloc t cs).put hn _)
theorem VH{x:Operand}{v:Value}{t:TypeId}(c:ev l x=some v):Alc P μ l L ⟨ds,.box t x,ty,pos,af,gd⟩ (fun b=>.pointer (some ⟨b,0,none⟩)) t v.cells.toList:=
 fun a w hs=>by have e:=hs.eval c;generalize a.eval=ρ at e;simp[execOp,e,Instr.box,newVar,newRow]
theorem MC{z:Value}{t:TypeId}(c:qR P t=some z):Alc P μ l L ⟨ds,.alloc t,ty,pos,af,gd⟩ (fun b=>.pointer (some ⟨b,0,none⟩)) t z.cells.toList:=
 fun a w hs=>by simp[execOp,Instr.alloc,oX c,newVar,newRow]
def wO(off:Nat)(vs:List Value)(cs:bG):bG:=idx off vs++cs
theorem HO(l1 l2:bG)(k:Nat):lk (l1++l2) k=match lk l1 k with|some v=>some v|none=>lk l2 k:=by
 induction l1 with
 |nil=>rfl
 | cons x r ih=>
   obtain⟨t,v⟩:=x;by_cases e:t=k
   ·subst e;simp[lk]
   ·simp[lk,FM e,ih]
theorem vM:∀(vs:List Value) (i k:Nat),lk (idx i vs) k=none→k<i∨i+vs.length≤k
 |[],i,k,_=>by simp;omega
 | u::r,i,k,h=>by
   by_cases e:i=k
   ·subst e;simp[idx,lk]at h
   ·simp[idx,lk,FM e]at h;rcases vM r (i+1) k h with a|a<;>simp<;>omega
theorem yW{y z:Bk}:∀{L:List Bk} {i:Nat},z∈nQ L i y→z=y∨z∈L
 |[],_,h=>by simp[nQ]at h
 |x::r,0,h=>(aV.1 (by simpa[nQ]using h:z∈y::r)).imp id (List.mem_cons_of_mem _)
 | x::r,i+1,h=>by
   rcases aV.1 (by simpa[nQ]using h:z∈x::nQ r i y)with h|h
   ·exact .inr (by simp[h])
   ·rcases yW (i:=i) h with h|h
    ·exact .inl h
    ·exact .inr (by simp[h])
theorem BA{x y z:Bk}:∀{L:List Bk} {i:Nat},jO L i=some x→L.Pairwise (fun x y=>∀b,Bk.id x=some b→Bk.id y≠some b)→z∈nQ L i y→z=y∨(z∈L∧∀b,Bk.id x=some b→Bk.id z≠some b)
 |[],_,h,_,_=>by simp[jO]at h
 | u::r,0,h,hp,a=>by simp[jO]at h;subst h;obtain⟨h1,_⟩:=List.pairwise_cons.1 hp;exact(aV.1 (by simpa[nQ]using a:z∈y::r)).imp id (fun h=>⟨aS h,fun b hb=>h1 z h b hb⟩)
 | u::r,i+1,h,hp,a=>by
   obtain⟨h1,h2⟩:=List.pairwise_cons.1 hp;have d:jO r i=some x:=by simpa[jO]using h
   rcases aV.1 (by simpa[nQ]using a:z∈u::nQ r i y)with rfl|a
   ·exact .inr ⟨by simp,fun b hb c=>h1 x (fB d) b c hb⟩
   ·exact(BA d h2 a).imp id (fun h=>⟨aS h.1,h.2⟩)
theorem St.upd(h:St X μ l L a w){i:Nat}{x y:Bk}(hi:jO L i=some x){w' :World}(ae:w'.os=w.os)(g:w'.tape=w.tape)(v:w'.output=w.output)(ad:w.heap.size≤w'.heap.size)
 (hk:∀b,b<w.heap.size→Bk.id x≠some b→w'.heap[b]? =w.heap[b]?)(hy:Bk.at y w')(hid:∀b,Bk.id y=some b→Bk.id x=some b∨w.heap.size≤b):St X μ l (nQ L i y) a w' :=by
 have p:=fB hi;have aa:∀x∈L,∀b,Bk.id x=some b→b<w.heap.size:=fun x p b hb=>Bk.lt (h.own x p) hb;have j:∀b,w.heap.size≤b→μ b=none:=fun b hb=>by
  cases hm:μ b with
  |none=>rfl
  | some o=>
    have:=(Array.getElem?_eq_some_iff.1 (h.mem _ _ hm)).1;omega
 refine⟨h.size,h.defers,h.slots,⟨ae.trans h.cW.os,g.trans h.cW.tape,v.trans h.cW.output,bO h.cW.size ad,fun b hb hM=>?_⟩,fun b o hb=>?_,h.from0,h.fresh,fun z c=>?_,fun z c b hb=>?_,fun z c b hb=>?_,?_⟩
 ·rw[hk b (dJ hb h.cW.size) (fun e=>?_)]
  ·exact h.cW.block b hb hM
  ·rcases h.new x p b e with h1|h1
   ·exact hM h1
   ·omega
 ·have hm:=h.mem b o hb;rw[hk b (Array.getElem?_eq_some_iff.1 hm).1 (fun e=>by rw[h.priv x p b e]at hb;cases hb)];exact hm
 ·rcases BA hi h.diff c with rfl|⟨c,ab⟩
  ·exact hy
  ·exact Bk.cW (h.own z c) (fun b hb=>hk b (aa z c b hb) (fun e=>ab b e hb))
 ·rcases yW c with rfl|c
  ·rcases hid b hb with h1|h1
   ·exact h.priv x p b h1
   ·exact j b h1
  ·exact h.priv z c b hb
 ·rcases yW c with rfl|c
  ·rcases hid b hb with h1|h1
   ·exact h.new x p b h1
   ·exact .inr (bO h.cW.size h1)
  ·exact h.new z c b hb
 ·have key:∀{L:List Bk} {i:Nat},(∀z∈L,∀b,Bk.id z=some b→b<w.heap.size)→jO L i=some x→L.Pairwise (fun x y=>∀b,Bk.id x=some b→Bk.id y≠some b)→(nQ L i y).Pairwise (fun x y=>∀b,Bk.id x=some b→Bk.id y≠some b):=by
   intro L;induction L with
   |nil=>intro i _ h1 _;simp[jO]at h1
   | cons z r ih=>
     intro i hl h1 hp;obtain⟨k,q⟩:=List.pairwise_cons.1 hp;cases i with
     | zero=>
       simp[jO]at h1;subst h1;refine List.pairwise_cons.2 ⟨fun u hu b hb d=>?_,q⟩;rcases hid b hb with h4|h4
       ·exact k u hu b h4 d
       ·have:=hl u (by simp[hu]) b d;omega
     | succ i=>
       have h' :jO r i=some x:=by simpa[jO]using h1
       refine List.pairwise_cons.2 ⟨fun u hu b hb d=>?_,ih (fun z c=>hl z (by simp[c])) h' q⟩;rcases yW hu with rfl|hu
       ·rcases hid b d with h4|h4
        ·exact k x (fB h') b hb h4
        ·have:=hl z (by simp) b hb;omega
       ·exact k u hu b hb d
  exact key aa hi h.diff
theorem St.setRow(h:St X μ l L a w){i:Nat}{x:Blk}(hi:jO L i=some (.inl x)){cs:Array Value}{cs' :bG}(c:cs.size=x.sz)(d:∀k v,lk cs' k=some v→cs[k]? =some v):
 St X μ l (nQ L i (.inl ⟨x.b,x.t,x.sz,cs'⟩)) a (w.setRow x.b cs):=by
 obtain⟨arr,g,_⟩:=h.own _ (fB hi);exact h.upd hi rfl rfl rfl (by simp) (fun b _ hb=>setRow_other w x.b b cs (fun e=>hb (by rw[e];rfl))) ⟨cs,setRow_heap w x.b arr cs x.t (0,0) g,c,d⟩ (fun b hb=>.inl hb)
theorem CS{x q:Operand}{t:TypeId}{off n:Nat}{y:Blk}{v:Value}(i:Nat)(hw:dW ops l ⟨none,.store t q x,ty,pos,af,gd⟩=some true)(o:gW P t=some n)
 (hi:jO L i=some (.inl y))(hq:ev l q=some (.pointer (some ⟨y.b,off,none⟩)))(hx:ev l x=some v)(hlen:v.cells.toList.length=n)(hone:v.cells.toList.all (·.oneCell')=true)
 (j:Nat.ble (off+n) y.sz=true)
 (h:G P X ops Q rest μ l (nQ L i (.inl ⟨y.b,y.t,y.sz,wO off v.cells.toList y.cs⟩))):G P X ops Q (⟨none,.store t q x,ty,pos,af,gd⟩::rest) μ l L:=
 BU hw fun a w hs=>by
  have e0:=hs.eval hq;have e1:=hs.eval hx;obtain⟨arr,hh,c,p⟩:=hs.own _ (fB hi);have z:off+n≤y.sz:=by simpa using j
  have ad:v.cells.size=n:=by simpa using hlen
  have g:=run_storeCells_at (P:=P) y.b off y.t v.cells.toList 0 arr w hh (by rw[hlen,c];omega) (fY.1 hone);have d:(Instr.storeAt t (.pointer (some ⟨y.b,off,none⟩)) v).run P w=.ok () (w.setRow y.b (arr.toList.take (off+0)++v.cells.toList++arr.toList.drop (off+0+v.cells.toList.length)).toArray):=by
   have r:¬v.cells.size≠n:=by simpa using hlen
   simp only[Instr.storeAt,Instr.sureAddr,storeVar,Sem.run_bind,Sem.run_pure,Result.andThen_ok,run_sizeOf o,if_neg r];exact g
  unfold Oper.wp;generalize ab:a.eval=ρ at e0 e1;have hex:(execOp ρ ⟨none,.store t q x,ty,pos,af,gd⟩).run P w=.ok .skip (w.setRow y.b (arr.toList.take (off+0)++v.cells.toList++arr.toList.drop (off+0+v.cells.toList.length)).toArray):=by simp only[execOp,e0,e1,Sem.run_bind,d,Result.andThen_ok];rfl
  rw[hex,Oper.upon_skip];refine h _ _ ((hs.setRow hi ?_ ?_).LQ _)
  ·simp[c];omega
  ·intro k u hu;unfold wO at hu;rw[HO]at hu;cases hk:lk (idx off v.cells.toList) k with
   | some u' =>
     rw[hk]at hu;cases hu;obtain⟨h1,h2⟩:=vN _ _ _ _ hk;have h3:k-off<v.cells.toList.length:=(List.getElem?_eq_some_iff.1 h2).1;simp only[jP,cM];rw[bR,bQ (by simp;omega),bY (by simp;omega)];have:(arr.toList.take off).length=off:=by simp;omega
     rw[this];exact h2
   | none=>
     rw[hk]at hu;have h4:=p k u hu;rcases vM _ _ _ hk with h5|h5
     ·simp only[jP,cM];rw[bR,bY (by simp;have:=(Array.getElem?_eq_some_iff.1 h4).1;omega),cT];simp[h5,h4]
     ·simp only[jP,cM];have aa:=(Array.getElem?_eq_some_iff.1 h4).1;rw[bQ (by simp;omega),eE];have:(arr.toList.take off++v.cells.toList).length=off+v.cells.toList.length:=by simp;omega
      rw[this,show off+v.cells.toList.length+ (k- (off+v.cells.toList.length))=k by omega];simpa using h4
def PC:Nat→List Value→bG→bG→Prop
 |_,[],cs,cs' =>cs' =cs
 |off,v::vs,cs,cs' =>∃r,cs' =(off,v)::r∧PC (off+1) vs cs r
theorem fL{off:Nat}{cs:bG}:PC off [] cs cs:=rfl
theorem dY{off:Nat}{v:Value}{vs:List Value}{cs r:bG}(h:PC (off+1) vs cs r):PC off (v::vs) cs ((off,v)::r):=⟨r,rfl,h⟩
theorem PC.eq:∀{vs:List Value} {off:Nat} {cs cs' :bG},PC off vs cs cs' →cs' =wO off vs cs
 |[],_,_,_,h=>h
 | v::vs,off,cs,cs',h=>by obtain⟨r,rfl,hr⟩:=h;rw[PC.eq hr];rfl
theorem eD{x q:Operand}{t:TypeId}{off b bt sz s:Nat}{cs cs' :bG}{L:List Bk}{vs:List Value}(hw:dW ops l ⟨none,.store t q x,ty,pos,af,gd⟩=some true)(c:gW P t=some s)
 (i:ev l q=some (.pointer (some ⟨b,off,none⟩)))(g:ev l x=some (.agg vs.toArray))(hlen:vs.length=s)(hone:vs.all (·.oneCell')=true)(a:Nat.ble (off+s) sz=true)(d:PC off vs cs cs')
 (h:G P X ops Q rest μ l (.inl ⟨b,bt,sz,cs'⟩::L)):G P X ops Q (⟨none,.store t q x,ty,pos,af,gd⟩::rest) μ l (.inl ⟨b,bt,sz,cs⟩::L):=by
 have e:=d.eq;subst e;exact CS (n:=s) 0 hw c (y:=⟨b,bt,sz,cs⟩) rfl i g (by simpa[Value.cells]using hlen) (by simpa[Value.cells]using hone) a h
theorem ET{x q:Operand}{t:TypeId}{off b bt sz s:Nat}{cs cs' :bG}{y0:Bk}{L:List Bk}{vs:List Value}(hw:dW ops l ⟨none,.store t q x,ty,pos,af,gd⟩=some true)(c:gW P t=some s)
 (i:ev l q=some (.pointer (some ⟨b,off,none⟩)))(g:ev l x=some (.agg vs.toArray))(hlen:vs.length=s)(hone:vs.all (·.oneCell')=true)(a:Nat.ble (off+s) sz=true)(d:PC off vs cs cs')
 (h:G P X ops Q rest μ l (y0::.inl ⟨b,bt,sz,cs'⟩::L)):G P X ops Q (⟨none,.store t q x,ty,pos,af,gd⟩::rest) μ l (y0::.inl ⟨b,bt,sz,cs⟩::L):=by
 have e:=d.eq;subst e;exact CS (n:=s) 1 hw c (y:=⟨b,bt,sz,cs⟩) rfl i g (by simpa[Value.cells]using hlen) (by simpa[Value.cells]using hone) a h
theorem aFh{x q:Operand}{t:TypeId}{off b bt sz s:Nat}{cs cs' :bG}{y0 y1:Bk}{L:List Bk}{vs:List Value}(hw:dW ops l ⟨none,.store t q x,ty,pos,af,gd⟩=some true)(c:gW P t=some s)
 (i:ev l q=some (.pointer (some ⟨b,off,none⟩)))(g:ev l x=some (.agg vs.toArray))(hlen:vs.length=s)(hone:vs.all (·.oneCell')=true)(a:Nat.ble (off+s) sz=true)(d:PC off vs cs cs')
 (h:G P X ops Q rest μ l (y0::y1::.inl ⟨b,bt,sz,cs'⟩::L)):G P X ops Q (⟨none,.store t q x,ty,pos,af,gd⟩::rest) μ l (y0::y1::.inl ⟨b,bt,sz,cs⟩::L):=by
 have e:=d.eq;subst e;exact CS (n:=s) 2 hw c (y:=⟨b,bt,sz,cs⟩) rfl i g (by simpa[Value.cells]using hlen) (by simpa[Value.cells]using hone) a h
theorem MU(vs:List Value):∀(off k:Nat) (z:Array Value) (i:Nat),
 ((vs.zipIdx k).foldl (fun(cs:Array Value) (p:Value×Nat)=>cs.setIfInBounds (off+p.2) p.1) z)[i]? =if off+k≤i∧i<off+k+vs.length∧i<z.size then vs[i- (off+k)]? else z[i]? :=by
 induction vs with
 |nil=>intro off k z i;simp;intro h1 h2 h3;omega
 | cons v vs ih=>
   intro off k z i;simp only[List.zipIdx_cons,iN];rw[ih off (k+1)];simp only[aF,Array.size_setIfInBounds];by_cases h1:off+k=i
   ·subst h1;rw[if_neg (by omega)];by_cases h2:off+k<z.size
    ·rw[if_pos (by omega),cL h2];simp
    ·rw[if_neg (by omega)];simp[eV (lK h2)];exact lK h2
   ·by_cases h2:off+ (k+1)≤i∧i<off+ (k+1)+vs.length∧i<z.size
    ·rw[if_pos h2,if_pos (by omega),show i- (off+k)=(i- (off+ (k+1)))+1 by omega];simp
    ·rw[if_neg h2,if_neg (by omega),cR h1]
def flat(vs:List Value):List Value:=vs.flatMap fun v=>v.cells.toList
theorem ZW(size:Nat):∀(vs:List Value) (k:Nat) (z:Array Value),(∀v∈vs,v.cells.size=size)→(k+vs.length)*size≤z.size→
 ∃ r:Array Value,Instr.fill (fun i=>some (i*size,size)) z ((vs.zipIdx k).map fun p=>(p.2,p.1))=some r∧r.size=z.size∧
   ∀i,r[i]? =if k*size≤i∧i< (k+vs.length)*size then(flat vs)[i-k*size]? else z[i]? :=by
 intro vs;induction vs with
 |nil=>intro k z _ _;exact⟨z,rfl,rfl,fun i=>by simp;omega⟩
 | cons v vs ih=>
   intro k z hv hk;have a:v.cells.size=size:=hv v (by simp);have hle:k*size+size≤z.size:=by have:(k+1)*size≤(k+ (v::vs).length)*size:=fS _ (by simp);rw[dK,mG]at this;omega
   have g:(k+1+vs.length)*size≤z.size:=by rw[show k+1+vs.length=k+ (v::vs).length by simp;omega];exact hk
   let z' :=v.cells.zipIdx.foldl (fun cs (c,j)=>cs.setIfInBounds (k*size+j) c) z
   have d:∀i,z'[i]? =if k*size≤i∧i<k*size+size then v.cells[i-k*size]? else z[i]? :=by
    intro i;have:=MU v.cells.toList (k*size) 0 z i;have e:z' =(v.cells.toList.zipIdx 0).foldl (fun(cs:Array Value) (p:Value×Nat)=>cs.setIfInBounds (k*size+p.2) p.1) z:=by
     show v.cells.zipIdx.foldl _ z=_
     rw[←gL];simp
    rw[e,this];simp only[cM,gA,a];by_cases hc:k*size≤i∧i<k*size+size
    ·rw[if_pos (by omega),if_pos hc];simp
    ·rw[if_neg (by omega),if_neg hc]
   have b:z'.size=z.size:=by
    have h:∀(l:List (Value×Nat)) (z:Array Value),(l.foldl (fun(cs:Array Value) (p:Value×Nat)=>cs.setIfInBounds (k*size+p.2) p.1) z).size=z.size:=by
     intro l;induction l with
     |nil=>intro z;rfl
     |cons p l ih=>intro z;simp only[iN];rw[ih];simp
    show(v.cells.zipIdx.foldl _ z).size=_
    rw[←gL];exact h _ _
   obtain⟨r,h1,h2,h3⟩:=ih (k+1) z' (fun u hu=>hv u (by simp[hu])) (by rw[b];exact g);refine⟨r,?_,by rw[h2,b],fun i=>?_⟩
   ·simp only[List.zipIdx_cons,bE,Instr.fill];rw[if_neg (by simp[a];omega)];exact h1
   ·rw[h3 i,d i];have e2:(k+ (v::vs).length)*size=(k+1+vs.length)*size:=by rw[show k+ (v::vs).length=k+1+vs.length by simp;omega]
    have e3:(k+1)*size=k*size+size:=by rw[dK,mG]
    have e4:(k+1)*size≤(k+1+vs.length)*size:=fS _ (by omega);rw[e2];have hf:flat (v::vs)=v.cells.toList++flat vs:=by simp[flat]
    rw[hf];by_cases hc:k*size≤i∧i< (k+1+vs.length)*size
    ·rw[if_pos hc];by_cases hd:(k+1)*size≤i
     ·rw[if_pos ⟨hd,hc.2⟩,bQ (by simp[a];omega)];congr 1;simp[a];omega
     ·rw[if_neg (by omega),if_pos (by omega),bY (by simp[a];omega)];simp
    ·rw[if_neg (by omega),if_neg (by omega),if_neg hc]
theorem DM{t e:TypeId}{size:Nat}{z:Value}(vs:List Value)(ht:P.underlying t=some (.slice e))(hs:gW P e=some size)(c:qR P e=some z)(hv:∀v∈vs,v.cells.size=size)
 (hb:vs.length*size≤16777216)(w:World):
 (Instr.buildSlice t vs.length ((vs.zipIdx.map fun p=>(p.2,p.1)).toArray)).run P w=.ok (.slice (some ⟨w.heap.size,0,none⟩) vs.length vs.length) (w.alloc (.cells (flat vs).toArray e)):=by
 have hlen:(flat vs).length=vs.length*size:=by
  clear hb;unfold flat;induction vs with
  |nil=>simp
  | cons v vs ih=>
    simp only[dA,aB,aF,gA];rw[ih (fun u hu=>hv u (by simp[hu])),hv v (by simp),dK];omega
 have a:¬vs.length*size>2^24:=by omega
 have key:∀zc:Array Value,Instr.fill (fun i=>some (i*size,size)) ((Array.range (vs.length*size)).map (zc[· %zc.size]!)) (vs.zipIdx.map fun p=>(p.2,p.1))=some (flat vs).toArray:=by
  intro zc;obtain⟨r,h1,h2,h3⟩:=ZW size vs 0 ((Array.range (vs.length*size)).map (zc[· %zc.size]!)) hv (by simp);rw[h1];congr 1;apply gM;intro i;rw[h3 i];simp only[dT,jU,cU,true_and,lJ];by_cases hi:i<vs.length*size
  ·rw[if_pos hi];simp
  ·rw[if_neg hi];simp;rw[eV (by simp;omega),dQ (by omega)];rfl
 unfold Instr.buildSlice;by_cases b:vs.length*size=0
 ·simp only[Sem.run_bind,run_underlying ht,Result.andThen_ok,run_sizeOf hs,if_neg a,if_pos b,Sem.run_pure,key];rfl
 ·simp only[Sem.run_bind,run_underlying ht,Result.andThen_ok,run_sizeOf hs,if_neg a,if_neg b,Sem.run_pure,oX c,key];rfl
def BP(l:bG)(s:Nat):Nat→List (Nat×Operand)→List Value→List Value→Prop
 |_,[],[],[]=>True
 |i,(j,x)::ps,v::vs,cs=>j=i∧ev l x=some v∧v.cells.size=s∧∃r,cs=v.cells.toList++r∧BP l s (i+1) ps vs r
 |_,_,_,_=>False
theorem aFy{l:bG}{s i:Nat}:BP l s i [] [] []:=trivial
def AP:List Value→List Value→List Value→Prop
 |[],r,cs=>cs=r
 |u::us,r,cs=>∃c,cs=u::c∧AP us r c
theorem AP.eq:∀{us r cs:List Value},AP us r cs→cs=us++r
 |[],_,_,h=>h
 |u::us,r,cs,h=>by obtain⟨c,rfl,hc⟩:=h;rw[AP.eq hc];rfl
theorem BP.spec{s:Nat}:∀{ps:List (Nat×Operand)} {i:Nat} {vs cs:List Value},BP l s i ps vs cs→Rd μ l L a w→
 (ps.map fun(i,x)=>(i,a.eval x))=(vs.zipIdx i).map (fun p=>(p.2,p.1))∧flat vs=cs∧(∀v∈vs,v.cells.size=s)∧vs.length=ps.length
 |[],_,[],[],_,_=>by simp[flat]
 |[],_,[],_::_,h,_=>by simp[BP]at h
 |[],_,_::_,_,h,_=>by simp[BP]at h
 |(j,x)::ps,i,[],_,h,_=>by simp[BP]at h
 | (j,x)::ps,i,v::vs,cs,h,hs=>by
   obtain⟨rfl,b,hv,r,rfl,hr⟩:=h;obtain⟨h1,h2,h3,h4⟩:=BP.spec hr hs;refine⟨by simp[hs.eval b,h1],by simp[flat]at h2⊢;rw[h2],?_,by simp[h4]⟩;intro u hu;rcases aV.1 hu with rfl|hu
   ·exact hv
   ·exact h3 u hu
theorem JH{t e s n:TypeId}{ps:List (Nat×Operand)}{vs cs:List Value}{z:Value}(ht:P.underlying t=some (.slice e))(hs:gW P e=some s)(d:qR P e=some z)(hn:ps.length=n)(hb:Nat.ble (n*s) 16777216=true)(hp:BP l s 0 ps vs cs):
 Alc P μ l L ⟨ds,.buildSlice t n ps.toArray,ty,pos,af,gd⟩ (fun b=>.slice (some ⟨b,0,none⟩) n n) e cs:=
 fun a w c=>by
  obtain⟨h1,h2,h3,h4⟩:=hp.spec c;have hr:=DM (P:=P) vs ht hs d h3 (by rw[h4,hn];simpa using hb) w;generalize a.eval=ρ at h1;have e2:(ps.toArray.map fun(i,x)=>(i,ρ x))=(vs.zipIdx.map fun p=>(p.2,p.1)).toArray:=by rw[←h1];simp
  rw[h2,h4,hn]at hr;simp only[execOp,e2];simp only[Sem.run_bind,hr,Result.andThen_ok];rfl
structure oH (w w' :World) (μ μ' :Mem):Prop where
 below:Below w.heap.size w w'
 le:MLe μ μ'
 ok:MOk μ' w'
 fresh:∀b,b<w.heap.size→μ b=none→μ' b=none
def Bk.sh:Bk→Mem→Prop
 |.inl x,μ=>∃arr:Array Value,μ x.b=some (.cells arr x.t (0,0))∧arr.size=x.sz∧∀i v,lk x.cs i=some v→arr[i]? =some v
 |.inr r,μ=>r.xs.length=r.n*r.s∧((r.v=.slice none 0 0∧r.n=0)∨
    ∃g cap cur,r.v=.slice (some ⟨g,0,none⟩) r.n cap∧μ g=some (.cells cur r.e (0,0))∧r.n≤cap∧cap≤maxLen∧cur.size=cap*r.s∧cur.toList.take (r.n*r.s)=r.xs)
 |.mp m,μ=>μ m.b=some (.map m.es.toArray m.ck)
 |.it b m s x c,μ=>μ b=some (.mapIter m s x c)
theorem Bk.KQ{x:Bk}{w:World}{μ:Mem}(h:Bk.at x w)(hm:∀b o,Bk.id x=some b→w.heap[b]? =some o→μ b=some o):Bk.sh x μ:=by
 cases x with
 | inl x=>
   obtain⟨arr,a,h2⟩:=h;exact⟨arr,hm _ _ rfl a,h2⟩
 | inr r=>
   refine⟨h.1,h.2.imp (fun h=>h) ?_⟩;rintro⟨g,cap,cur,hv,d,a,h3⟩;exact⟨g,cap,cur,hv,hm g _ (by simp[Bk.id,hv,Value.ownBlock]) a,h3⟩
 |mp m=>exact hm _ _ rfl h
 |it b m s x c=>exact hm _ _ rfl h
structure KD (μc μ:Mem) (L:List Bk):Prop where
 le:MLe μ μc
 own:∀x∈L,Bk.sh x μc
def hG(P:Program)(f:FuncId):Bool:=match P.funcs[f]? with|some fn=>fn.body.isSome&& !(fn.name== "runtime.NumGoroutine")|none=>false
theorem sQ{f:FuncId}{xs:Array Operand}{ts:Array TypeId}{ρ:Operand→Value}(hf:hG P f=true)(a:ρ (.func f)=.func (.func f) #[] #[])(w:World):
 (execOp ρ ⟨ds,.call { callee:=.value (.func f),args:=xs,argTypes:=ts },ty,pos,af,gd⟩).run P w=.ok (.enter f (xs.map ρ)) w:=by
 unfold hG at hf;cases h:P.funcs[f]? with
 |none=>simp[h]at hf
 | some fn=>
   simp only[h,aM,lC]at hf;have hb:¬fn.body=none:=by intro hb;simp[hb]at hf
   have hn:¬fn.name= "runtime.NumGoroutine" :=by have:=hf.2;simpa using this
   simp[execOp,resolve,a,Deferred.ofValue,invoke,callFunc,h,hn,hb]
theorem St.mM(h:St X μ l L a w){w' :World}(hb:Below w.heap.size w w'):St X μ l L a w' :=by
 have d:∀b o,w.heap[b]? =some o→w'.heap[b]? =some o:=fun b o e=>by rw[hb.block b (Array.getElem?_eq_some_iff.1 e).1];exact e
 refine⟨h.size,h.defers,h.slots,⟨hb.os.trans h.cW.os,hb.tape.trans h.cW.tape,hb.output.trans h.cW.output,bO h.cW.size hb.size,fun b c j=>?_⟩,fun b o g=>d _ _ (h.mem b o g),h.from0,h.fresh,fun x i=>Bk.cW (h.own x i) (fun b c=>hb.block b (Bk.lt (h.own x i) c)),h.priv,h.new,h.diff⟩
 ·rw[hb.block b (dJ c h.cW.size)];exact h.cW.block b c j
theorem St.grow(h:St X μ l L a w){w' :World}{μ' :Mem}(hg:oH w w' μ μ'):St X μ' l L a w' :=by
 have h1:=h.mM hg.below;exact⟨h1.size,h1.defers.mono hg.le,h1.slots,h1.cW,hg.ok,h.from0.trans hg.le,fun b hb hm d=>hg.fresh b (dJ hb h.cW.size) (h.fresh b hb hm d),h1.own,fun x c b hb=>hg.fresh b (Bk.lt (h.own x c) hb) (h.priv x c b hb),h1.new,h1.diff⟩
theorem St.aGg(h:St X μ l L a w):KD (fun b=>w.heap[b]?) μ L:=⟨h.mem,fun x c=>Bk.KQ (h.own x c) (fun _ _ _ e=>e)⟩
theorem oP{f:FuncId}{vs:Array Value}{v:Value}(hd:o.dst=some d)(hn:Nat.blt d X.n=true)(hw:dW ops l o=some true)
 (hr:Ent P μ l L o f vs)
 (hc:∀w μc,MOk μc w→KD μc μ L→Calls P f vs w fun e w' =>e=.returned v∧Below w.heap.size w w')
 (h:G P X ops Q rest μ ((d,v)::l) L):G P X ops Q (o::rest) μ l L:=
 BU hw fun a w hs=>by
  unfold Oper.wp;rw[hr a w hs.rd,Oper.upon_enter];refine(hc w _ (fun _ _ h=>h) hs.aGg).mono fun e w' he=>?_;obtain⟨rfl,hb⟩:=he;show wpList P ops Q rest (a.put o.dst v) w'
  rw[hd];exact h _ _ ((hs.mM hb).put hn _)
theorem oQ{f:FuncId}{vs:Array Value}{Post:Mem→Value→Prop}(hd:o.dst=some d)(hn:Nat.blt d X.n=true)(hw:dW ops l o=some true)
 (hr:Ent P μ l L o f vs)
 (hc:∀w,MOk μ w→Calls P f vs w fun e w' =>∃v μ',e=.returned v∧oH w w' μ μ' ∧Post μ' v)
 (h:∀v μ',MLe μ μ' →Post μ' v→G P X ops Q rest μ' ((d,v)::l) L):G P X ops Q (o::rest) μ l L:=
 BU hw fun a w hs=>by
  unfold Oper.wp;rw[hr a w hs.rd,Oper.upon_enter];refine(hc w hs.mem).mono fun e w' he=>?_;obtain⟨v,μ',rfl,hg,hp⟩:=he;show wpList P ops Q rest (a.put o.dst v) w'
  rw[hd];exact h v μ' hg.le hp _ _ ((hs.grow hg).put hn _)
theorem St.aDc{y:Bk}(hs:St X μ l (y::L) a w)(_:X.M=X.M):∃μ',MLe μ μ' ∧Bk.sh y μ' ∧St X μ' l L a w:=by
 have hd:=List.pairwise_cons.1 hs.diff;have d:=hs.own y (by simp);cases hid:Bk.id y with
 | none=>
   refine⟨μ,MLe.refl _,Bk.KQ d (fun b o e _=>by rw[hid]at e;cases e),hs.size,hs.defers,hs.slots,hs.cW,hs.mem,hs.from0,hs.fresh,fun x c=>hs.own x (by simp[c]),fun x c=>hs.priv x (by simp[c]),fun x c=>hs.new x (by simp[c]),hd.2⟩
 | some g=>
   refine⟨fun b=>if b=g then w.heap[g]? else μ b,fun b o e=>?_,Bk.KQ d (fun b o e ho=>?_),hs.size,hs.defers.mono (fun b o e=>?_),hs.slots,hs.cW,fun b o e=>?_,fun b o e=>?_,fun b hb hm i=>?_,fun x c=>hs.own x (by simp[c]),fun x c b hb=>?_,fun x c=>hs.new x (by simp[c]),hd.2⟩
   ·have:b≠g:=fun e' =>by rw[e',hs.priv y (by simp) g hid]at e;cases e
    simp[this,e]
   ·rw[hid]at e;cases e;simp[ho]
   ·have:b≠g:=fun e' =>by rw[e',hs.priv y (by simp) g hid]at e;cases e
    simp[this,e]
   ·by_cases e' :b=g
    ·subst e';simpa using e
    ·simp[e']at e;exact hs.mem b o e
   ·have e2:=hs.from0 b o e;have:b≠g:=fun e' =>by rw[e',hs.priv y (by simp) g hid]at e2;cases e2
    simp[this,e2]
   ·have:b≠g:=fun e' =>by
     rcases hs.new y (by simp) g hid with h|h
     ·exact hm (e' ▸h)
     ·omega
    simp[this,hs.fresh b hb hm i]
   ·have:b≠g:=fun e' =>hd.1 x c g hid (e' ▸hb);simp[this,hs.priv x (by simp[c]) b hb]
abbrev qI(P:Program)(f:FuncId)(vs:Array Value)(w:World)(v:Value):Prop:=Calls P f vs w fun e w' =>e=.returned v∧Below w.heap.size w w'
theorem aQ{f:FuncId}{fn:Func}{c:Code}{args:List Value}{n:Nat}{R:Ending→World→Prop}(hf:P.funcs[f]? =some fn)(hb:fn.body=some c)(hn:fn.ntmps=n)(b:args.length≤n)
 (hμ:MOk μ w)(h:GC P ⟨w,μ,[],n⟩ c (bodyPost P fn R) μ (idx 0 args) []):Calls P f args.toArray w R:=by
 refine calls_of_wp hf hb (h _ _ ⟨?_,Marks.nil,fun t v hv=>?_,yH.refl _ _,hμ,MLe.refl _,fun _ _ _ h=>h,by simp,by simp,by simp,eM⟩)
 ·simp[hn];omega
 ·obtain⟨_,h2⟩:=vN _ _ _ _ hv;have a:t<args.length:=by have:=(List.getElem?_eq_some_iff.1 h2).1;simpa using this
  simp only[lJ]at h2;rw[hZ (by simpa using a)];simpa using h2
theorem bL{fn:Func}{t n:Nat}{v v' :Value}{μ0:Mem}(hr:fn.results= #[.tmp t])(hv:lk l t=some v')(e:v' =v):
 GQ ⟨w,μ0,[],n⟩ (bodyPost P fn (fun e w' =>e=.returned v∧Below w.heap.size w w')) .ret μ l L:=fun a w' hs=>by
 have h1:=hs.slots _ _ hv;refine⟨hs.defers.none (by simp),v',by simp[results,hr,h1],by rw[e],hs.cW.below⟩
theorem aEm{fn:Func}{t t2 n:Nat}{v v' v2 v2' :Value}{μ0:Mem}(hr:fn.results= #[.tmp t,.tmp t2])(hv:lk l t=some v')(b:lk l t2=some v2')(e:v' =v)(e2:v2' =v2):
 GQ ⟨w,μ0,[],n⟩ (bodyPost P fn (fun e w' =>e=.returned (.tuple #[v,v2])∧Below w.heap.size w w')) .ret μ l L:=fun a w' hs=>by
 have h1:=hs.slots _ _ hv;have h2:=hs.slots _ _ b;refine⟨hs.defers.none (by simp),.tuple #[v',v2'],by simp[results,hr,h1,h2],by rw[e,e2],hs.cW.below⟩
theorem St.JB{n:Nat}{μ0:Mem}{w' :World}(hs:St ⟨w,μ0,[],n⟩ μ l L a w'):∃μ',oH w w' μ0 μ' ∧MLe μ μ' ∧∀x∈L,Bk.sh x μ' :=by
 refine⟨fun b=>if b<w.heap.size then μ0 b else w'.heap[b]?,⟨hs.cW.below,fun b o e=>?_,fun b o e=>?_,fun b hb c=>by simp[hb,c]⟩,fun b o e=>?_,fun x d=>?_⟩
 ·by_cases hb:b<w.heap.size
  ·simp[hb,e]
  ·simp[hb];exact hs.mem b o (hs.from0 b o e)
 ·by_cases hb:b<w.heap.size
  ·simp[hb]at e;exact hs.mem b o (hs.from0 b o e)
  ·simp[hb]at e;exact e
 ·by_cases hb:b<w.heap.size
  ·simp only[hb,if_true];cases c:μ0 b with
   |none=>rw[hs.fresh b hb (by simp) c]at e;cases e
   |some o' =>have:=hs.from0 b o' c;rw[this]at e;exact e
  ·simp[hb];exact hs.mem b o e
 ·refine Bk.KQ (hs.own x d) (fun b o hb ho=>?_);have:¬b<w.heap.size:=by
   rcases hs.new x d b hb with h3|h3
   ·simp at h3
   ·simpa using h3
  simp[this,ho]
theorem aCs{f:FuncId}{ts:Array TypeId}(hf:hG P f=true)  :Ent P μ l L ⟨ds,.call { callee:=.value (.func f),args:= #[],argTypes:=ts },ty,pos,af,gd⟩ f #[]:=
 fun a w hs=>by rw[sQ hf rfl];simp
theorem uF{f:FuncId}{ts:Array TypeId}{x0:Operand}{v0:Value}(hf:hG P f=true)(hx0:ev l x0=some v0):Ent P μ l L ⟨ds,.call { callee:=.value (.func f),args:= #[x0],argTypes:=ts },ty,pos,af,gd⟩ f #[v0]:=
 fun a w hs=>by rw[sQ hf rfl];have e0:=hs.eval hx0;simp[e0]
theorem uE{f:FuncId}{ts:Array TypeId}{x0 x1:Operand}{v0 v1:Value}(hf:hG P f=true)(hx0:ev l x0=some v0)(hx1:ev l x1=some v1):Ent P μ l L ⟨ds,.call { callee:=.value (.func f),args:= #[x0,x1],argTypes:=ts },ty,pos,af,gd⟩ f #[v0,v1]:=
 fun a w hs=>by rw[sQ hf rfl];have e0:=hs.eval hx0;have e1:=hs.eval hx1;simp[e0,e1]
theorem zE{f:FuncId}{ts:Array TypeId}{x0 x1 x2:Operand}{v0 v1 v2:Value}(hf:hG P f=true)(hx0:ev l x0=some v0)(hx1:ev l x1=some v1)(b:ev l x2=some v2):Ent P μ l L ⟨ds,.call { callee:=.value (.func f),args:= #[x0,x1,x2],argTypes:=ts },ty,pos,af,gd⟩ f #[v0,v1,v2]:=
 fun a w hs=>by rw[sQ hf rfl];have e0:=hs.eval hx0;have e1:=hs.eval hx1;have e2:=hs.eval b;simp[e0,e1,e2]
theorem TM{f:FuncId}{ts:Array TypeId}{x0 x1 x2 x3:Operand}{v0 v1 v2 v3:Value}(hf:hG P f=true)(hx0:ev l x0=some v0)(hx1:ev l x1=some v1)(c:ev l x2=some v2)(b:ev l x3=some v3):Ent P μ l L ⟨ds,.call { callee:=.value (.func f),args:= #[x0,x1,x2,x3],argTypes:=ts },ty,pos,af,gd⟩ f #[v0,v1,v2,v3]:=
 fun a w hs=>by rw[sQ hf rfl];have e0:=hs.eval hx0;have e1:=hs.eval hx1;have e2:=hs.eval c;have e3:=hs.eval b;simp[e0,e1,e2,e3]
theorem aCr{f:FuncId}{ts:Array TypeId}{x0 x1 x2 x3 x4:Operand}{v0 v1 v2 v3 v4:Value}(hf:hG P f=true)(hx0:ev l x0=some v0)(hx1:ev l x1=some v1)(d:ev l x2=some v2)(c:ev l x3=some v3)(b:ev l x4=some v4):Ent P μ l L ⟨ds,.call { callee:=.value (.func f),args:= #[x0,x1,x2,x3,x4],argTypes:=ts },ty,pos,af,gd⟩ f #[v0,v1,v2,v3,v4]:=
 fun a w hs=>by rw[sQ hf rfl];have e0:=hs.eval hx0;have e1:=hs.eval hx1;have e2:=hs.eval d;have e3:=hs.eval c;have e4:=hs.eval b;simp[e0,e1,e2,e3,e4]
def uD(l:bG):List (Nat×Operand)→Option (List (Nat×Value))
 |[]=>some []
 | (i,x)::r=>match ev l x with
   | some v=>match uD l r with
     |some vs=>some ((i,v)::vs)
     |none=>none
   |none=>none
theorem zD(h:Rd μ l L a w):∀(ps:List (Nat×Operand)) (vs:List (Nat×Value)),uD l ps=some vs→(ps.map fun(i,x)=>(i,a.eval x))=vs
 |[],vs,e=>by simp[uD]at e;simp[e]
 | (i, x)::r,vs,e=>by
   unfold uD at e;cases b:ev l x with
   |none=>simp[b]at e
   | some v=>
     cases hr:uD l r with
     |none=>simp[b,hr]at e
     | some us=>
       simp[b,hr]at e;have:=zD h r us hr;simp only[bE,h.eval b,this,e]
def wQ(P:Program):List Field→Option (List (Nat×Nat))
 |[]=>some []
 | f ::r=>match gW P f.type with
   | some s=>match wQ P r with
     |some ps=>some ((f.offset,s)::ps)
     |none=>none
   |none=>none
theorem run_places:∀(fs:List Field) (ps:List (Nat×Nat)),wQ P fs=some ps→∀w:World,(fs.mapM (m:=Sem) fun f=>Prod.mk f.offset<$>sizeOf f.type).run P w=.ok ps w
 |[],ps,e,w=>by simp[wQ]at e;simp[←e]
 | f ::r,ps,e,w=>by
   unfold wQ at e;cases hs:gW P f.type with
   |none=>simp[hs]at e
   | some s=>
     cases hr:wQ P r with
     |none=>simp[hs,hr]at e
     | some qs=>
       simp[hs,hr]at e;simp[List.mapM_cons,run_sizeOf hs,run_places r qs hr,e]
def CK(P:Program)(t:TypeId):Option (List (Nat×Nat)):=
 match P.underlying t with
 |some (.struct fields)=>wQ P fields.toList
 | some (.array n e)=>match gW P e with
   |some s=>some ((List.range n).map fun i=>(i*s,s))
   |none=>none
 |_=>none
def oD:Value→List Value
 |.agg cs=>cs.toList
 |v=>[v]
theorem mQ(v:Value):oD v=v.cells.toList:=by cases v<;>rfl
def yF(pl:List (Nat×Nat)):List (Nat×Value)→bG→bG
 |[],acc=>acc
 | (i,v)::r,acc=>match pl[i]? with
   |some (off,_)=>yF pl r (idx off (oD v)++acc)
   |none=>yF pl r acc
def wR(pl:List (Nat×Nat))(n:Nat):List (Nat×Value)→Bool
 |[]=>true
 |(i,v)::r=>(match pl[i]? with|some (off,s)=>Nat.beq (oD v).length s&&Nat.ble (off+s) n|none=>false)&&wR pl n r
theorem BF(pl:List (Nat×Nat))(place:Nat→Option (Nat×Nat))(h:∀i x,pl[i]? =some x→place i=some x):∀(us:List (Nat×Value)) (z:Array Value) (acc:bG),wR pl z.size us=true→(∀j v,lk acc j=some v→z[j]? =some v)→
 ∃r,Instr.fill place z us=some r∧r.size=z.size∧∀j v,lk (yF pl us acc) j=some v→r[j]? =some v
 |[],z,acc,_,ha=>⟨z,rfl,rfl,ha⟩
 | (i, u)::us,z,acc,a,ha=>by
   unfold wR at a;cases hp:pl[i]? with
   |none=>simp[hp]at a
   | some x=>
     obtain⟨off,s⟩:=x;simp only[hp,aM]at a;obtain⟨⟨h1,h2⟩,h3⟩:=a;have d:u.cells.size=s:=by have:=cC h1;rw[mQ]at this;simpa using this
     have w:off+s≤z.size:=by simpa using h2
     let z' :=u.cells.zipIdx.foldl (fun cs (c,j)=>cs.setIfInBounds (off+j) c) z
     have o:∀k,z'[k]? =if off≤k∧k<off+s then u.cells[k-off]? else z[k]? :=by
      intro k;have:=MU u.cells.toList off 0 z k;have e:z' =(u.cells.toList.zipIdx 0).foldl (fun(cs:Array Value) (p:Value×Nat)=>cs.setIfInBounds (off+p.2) p.1) z:=by
       show u.cells.zipIdx.foldl _ z=_
       rw[←gL];simp
      rw[e,this];simp only[cM,gA,d];by_cases hc:off≤k∧k<off+s
      ·rw[if_pos (by omega),if_pos hc];simp
      ·rw[if_neg (by omega),if_neg hc]
     have g:z'.size=z.size:=by
      have q:∀(l:List (Value×Nat)) (z:Array Value),(l.foldl (fun(cs:Array Value) (p:Value×Nat)=>cs.setIfInBounds (off+p.2) p.1) z).size=z.size:=by
       intro l;induction l with
       |nil=>intro z;rfl
       |cons p l ih=>intro z;simp only[iN];rw[ih];simp
      show(u.cells.zipIdx.foldl _ z).size=_
      rw[←gL];exact q _ _
     obtain⟨r,r1,r2,r3⟩:=BF pl place h us z' (idx off (oD u)++acc) (by rw[g];exact h3) (fun j v b=>by
      rw[HO]at b;rw[o j];cases hk:lk (idx off (oD u)) j with
      | some v' =>
        rw[hk]at b;cases b;obtain⟨g1,g2⟩:=vN _ _ _ _ hk;rw[mQ]at g2;have g3:j-off<u.cells.size:=by have:=(List.getElem?_eq_some_iff.1 g2).1;simpa using this
        rw[if_pos (by omega)];simpa using g2
      | none=>
        rw[hk]at b;have:=vM _ _ _ hk;rw[mQ]at this;simp only[gA,d]at this;rw[if_neg (by omega)];exact ha j v b)
     refine⟨r,?_,by rw[r2,g],?_⟩
     ·simp only[Instr.fill,h i _ hp];rw[if_neg (by simp[d];omega)];exact r1
     ·intro j v b;simp only[yF,hp]at b;exact r3 j v b
theorem run_build{t:TypeId}{z:Value}{us:List (Nat×Value)}{pl:List (Nat×Nat)}{n:Nat}(o:qR P t=some z)(a:CK P t=some pl)(hn:z.cells.toList.length=n)(h:wR pl n us=true)(cs:List Value)(hlen:cs.length=n)
 (l:∀j v,cs[j]? =some v→lk (yF pl us (idx 0 z.cells.toList)) j=some v)(w:World):(Instr.build t us.toArray).run P w=.ok (.agg cs.toArray) w:=by
 have c:z.cells.size=n:=by simpa using hn
 have key:∀place:Nat→Option (Nat×Nat),(∀i x,pl[i]? =some x→place i=some x)→Instr.fill place z.cells us=some cs.toArray:=by
  intro place hp;obtain⟨r,h1,h2,h3⟩:=BF pl place hp us z.cells (idx 0 z.cells.toList) (by rw[c];exact h) (fun j v p=>by
   obtain⟨_,g⟩:=vN _ _ _ _ p;simpa using g)
  rw[h1];congr 1;apply gM;intro j;by_cases p:j<n
  ·have hc:cs[j]? =some cs[j]:=aI (by omega);rw[h3 j _ (l j _ hc)];simp[hc]
  ·rw[eV (by omega)];simp;omega
 unfold CK at a;cases hu:P.underlying t with
 |none=>simp[hu]at a
 | some de=>
   cases de<;>simp[hu]at a
   ·rename_i m e;cases hs:gW P e with
    |none=>simp[hs]at a
    | some s=>
      simp only[hs,aR]at a;have hk:=key (fun i=>some (i*s,s)) (fun i x b=>by
       rw[←a]at b;rw[eL]at b;cases hr:(List.range m)[i]? with
       |none=>simp[hr]at b
       | some k=>
         obtain⟨q,d⟩:=List.getElem?_eq_some_iff.1 hr;rw[List.getElem_range]at d;subst d;simp[hr]at b;simp[b])
      simp[Instr.build,oX o,run_underlying hu,run_sizeOf hs,hk]
   ·rename_i fields;have hm:(fields.mapM (m:=Sem) fun f=>do pure (f.offset,←sizeOf f.type)).run P w=.ok pl.toArray w:=by rw[Array.mapM_eq_mapM_toList];simp[run_places _ _ a]
    have hk:=key (fun i=>pl.toArray[i]?) (fun i x b=>by simpa using b);simp only[Instr.build,Sem.run_bind,oX o,Result.andThen_ok,run_underlying hu,hm,hk];rfl
theorem aA3{t s:TypeId}{ps:List (Nat×Operand)}{us:List (Nat×Value)}{z:Value}{vs:List Value}{pl:List (Nat×Nat)}(b:gW P t=some s)(g:qR P t=some z)(hn:(oD z).length=s)(c:CK P t=some pl)(hp:uD l ps=some us)(d:wR pl s us=true)
 (hc:LC (yF pl us (idx 0 (oD z))) 0 s vs):Val P μ l L ⟨ds,.build t ps.toArray,ty,pos,af,gd⟩ (.agg vs.toArray):=
 fun a w hs=>by
  have e:=zD hs ps us hp;have r:=run_build (P:=P) g c (by rw[←mQ];exact hn) d vs hc.len (fun j v hv=>by
   rw[←mQ];simpa using hc.get j v hv) w
  have _:=b;generalize a.eval=ρ at e;have e2:(ps.toArray.map fun(i,x)=>(i,ρ x))=us.toArray:=by rw[←e];simp
  simp only[execOp,e2];simp only[Sem.run_bind,r,Result.andThen_ok];rfl
end
end
section
open Go.RowKit
def Sl{α:Type}(enc:α→List Value)(sz:Nat)(μ:Mem)(A:Option Addr)(n:Nat)(l:List α):Prop:=
 l.length=n∧(0<n→∃ad,A=some ad∧∀i x,l[i]? =some x→iK μ (ad.add (i*sz)) (enc x))
theorem oM.mono{μ μ' :Mem}{A:Addr}{v:Value}(h:oM μ A v)(hle:MLe μ μ'):oM μ' A v:=by
 obtain⟨c,t,f,h1,h2,h3⟩:=h;exact⟨c,t,f,hle _ _ h1,h2,h3⟩
theorem iK.mono{μ μ' :Mem}{A:Addr}{vs:List Value}(h:iK μ A vs)(hle:MLe μ μ'):iK μ' A vs:=fun j v hv=>(h j v hv).mono hle
theorem Sl.mono{α:Type}{enc:α→List Value}{sz n:Nat}{μ μ' :Mem}{A:Option Addr}{l:List α}(h:Sl enc sz μ A n l)(hle:MLe μ μ'):Sl enc sz μ' A n l:=
 ⟨h.1,fun hn=>by
   obtain⟨ad,e,hc⟩:=h.2 hn;exact⟨ad,e,fun i x a=>(hc i x a).mono hle⟩⟩
theorem iK.at{μ:Mem}{A:Addr}{k:Nat}{vs:List Value}(h:iK μ (A.add k) vs)(j:Nat){v:Value}(hv:vs[j]? =some v):oM μ (A.add (k+j)) v:=by
 have:=h j v hv;rwa[rN]at this
theorem Sl.get{α:Type}{enc:α→List Value}{sz n:Nat}{μ:Mem}{A:Option Addr}{l:List α}(h:Sl enc sz μ A n l){k:Nat}(hk:k<n):
 ∃ad x,A=some ad∧l[k]? =some x∧iK μ (ad.add (k*sz)) (enc x):=by
 obtain⟨ad,e,hc⟩:=h.2 (by omega);have hl:k<l.length:=by rw[h.1];exact hk
 exact⟨ad,l[k],e,aI hl,hc k _ (aI hl)⟩
def MK(l:List ByteArray)(s:ByteArray):Bool:=l.any fun x=>decide (s=x)
theorem MJ{l:List ByteArray}{s:ByteArray}:MK l s=true↔s∈l:=by simp[MK]
theorem PO{l:List ByteArray}{s:ByteArray}(h:s∉l):MK l s=false:=by
 cases e:MK l s with
 |false=>rfl
 |true=>exact absurd (MJ.1 e) h
abbrev FA(s:ByteArray):List Value:=[.string s]
theorem KD.hd{μc μ:Mem}{x:Bk}{L:List Bk}(h:KD μc μ (x::L)):Bk.sh x μc:=h.own x (dN _)
theorem Blk.cells{x:Blk}{μ:Mem}(h:Bk.sh (.inl x) μ){k:Nat}{vs:List Value}(hv:∀j v,vs[j]? =some v→lk x.cs (k+j)=some v):iK μ ((⟨x.b,0,none⟩:Addr).add k) vs:=by
 obtain⟨arr,h1,_,h2⟩:=h;intro j v a;rw[rN,add_lit];exact⟨arr,x.t,(0,0),h1,rfl,by simpa using h2 _ _ (hv j v a)⟩
theorem Sl.PF{α:Type}{enc:α→List Value}{sz n:Nat}{μ:Mem}{l:List α}{x:Blk}(h:Bk.sh (.inl x) μ)(hn:l.length=n)(hv:∀i y,l[i]? =some y→∀j v,(enc y)[j]? =some v→lk x.cs (i*sz+j)=some v):
 Sl enc sz μ (some ⟨x.b,0,none⟩) n l:=⟨hn,fun _=>⟨_,rfl,fun i y a=>Blk.cells h (fun j v c=>hv i y a j v c)⟩⟩
theorem Sl.aHy{α:Type}{enc:α→List Value}{sz:Nat}{μ:Mem}{y:α}{x:Blk}(h:Bk.sh (.inl x) μ)(hv:∀j v,(enc y)[j]? =some v→lk x.cs j=some v):Sl enc sz μ (some ⟨x.b,0,none⟩) 1 [y]:=
 Sl.PF h rfl (fun i z a j v c=>by
  match i,a with
  |0,a=>simp at a;subst a;simpa using hv j v c
  |i+1,a=>simp at a)
end
end Go.Vcg
namespace Go.Proofs.YtknieidhopbngaaGreat
end Go.Proofs.YtknieidhopbngaaGreat
