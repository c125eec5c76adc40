/- TreeRight, plainly: the program's and the reference's answers agree at every tree. -/
import Derived.Test.YtlllalmkkaolfaaGreatDoorUan
set_option maxRecDepth 20000
set_option maxHeartbeats 2000000
namespace Go.Proofs.YtlllalmkkaolfaaGreatDoor
section
open Go.RowKit Go.Vcg
attribute [local irreducible] gL fX fN xU bT lS dC hH iC oK JR JM isT dS pT jL nR chB lI fR
theorem aNk(t:T)(a:t.op=4)(hf:OkF t)(hk:∀k∈t.kids,OkF k):bD t=eA t:=by
 obtain⟨h0,h1⟩:=hf a;have hb:gL t 128=decide ((IntKind.i64.wrap (t.n.tdiv 128)).tmod 2=1):=by rw[mT hf (by simp),aEv a h0];rfl
 have e1:bD t=dS (eK [ofT [5],xN t]) t.kids:=by
  unfold bD;rw[if_pos (by omega)];unfold stB
  (repeat first|rw[if_pos (by omega)]|rw[if_neg (by omega)])
 rw[e1];by_cases hq:(IntKind.i64.wrap (t.n.tdiv 128)).tmod 2=1
 ·have e2:bO t=⟨#[80,69]⟩:=by
   unfold bO
   (repeat first|rw[if_pos (by omega)]|rw[if_neg (by omega)])
  rw[fL (by omega) (by omega) (by omega) e2 (by decide),show bl ⟨#[80,69]⟩=[80,69]from rfl,nS 80 (by decide) (by decide) (iM 69 eY)];unfold xN;rw[hb,decide_eq_true hq,if_pos rfl];exact dE (.cons ceP (.cons ceE .nil)) _ hk
 ·have e2:bO t=⟨#[80,66]⟩:=by
   unfold bO
   (repeat first|rw[if_pos (by omega)]|rw[if_neg (by omega)])
  rw[fL (by omega) (by omega) (by omega) e2 (by decide),show bl ⟨#[80,66]⟩=[80,66]from rfl,nS 80 (by decide) (by decide) (iM 66 eY)];unfold xN;rw[hb,decide_eq_false hq,if_neg (by simp)];exact dE (.cons ceP (.cons ceB .nil)) _ hk
theorem aRu(t:T)(a:t.op=19)(hk:∀k∈t.kids,OkF k):bD t=eA t:=by
 have e1:bD t=PE t.kids:=by
  unfold bD;rw[if_pos (by omega)];unfold stB
  (repeat first|rw[if_pos (by omega)]|rw[if_neg (by omega)])
 have e2:bO t=⟨#[66,67,89]⟩:=by
  unfold bO
  (repeat first|rw[if_pos (by omega)]|rw[if_neg (by omega)])
 have e3:dS (eK [ofT [6],ofT [20,7],ofT [6,7]]) t.kids=pT [66,67,89] t.kids:=by rw[nS 66 (by decide) (by decide) (nS 67 (by decide) (by decide) (iM 89 eY))];exact dE (.cons ceB (.cons ceC (.cons ceY .nil))) _ hk
 rw[e1];unfold PE eA rE vE;rw[e2,e3,if_neg (by omega),if_pos a,if_neg (by omega),decide_eq_true (by decide),bR,iY];rfl
theorem aQd{k:T}(h:chB k=true):iC k=true:=by
 cases hl:iC k
 ·rw[DE (KU hl)]at h;cases h
 ·rfl
theorem YG(t:T)(a:t.op=53):bD t=eA t:=by
 have e1:bD t=sM t.kids:=by
  unfold bD;rw[if_neg (by omega)];unfold exB
  (repeat first|rw[if_pos (by omega)]|rw[if_neg (by omega)])
 have e2:bO t=⟨#[99]⟩:=by
  unfold bO
  (repeat rw[if_neg (by omega)])
  unfold kA
  (repeat first|rw[if_pos (by omega)]|rw[if_neg (by omega)])
 rw[e1];unfold eA rE vE sM;rw[e2,if_neg (by omega),if_neg (by omega),if_pos a,decide_eq_true (by decide),bR,bR,show bl ⟨#[99]⟩=[99]from rfl];match t.kids with
 |[]=>simp
 | [k]=>
   rw[iM 99 eY,rK];simp only[mQ,show((99:UInt8).toNat:Int)=99 from rfl,aVe];cases hc:chB k
   ·simp
   ·simp[aQd hc]
 |_::_::_=>simp
theorem aJm(t:T)(b:t.op=36)(hk:∀k∈t.kids,OkF k):bD t=eA t:=by
 have e1:bD t=nR bT t.kids:=by
  unfold bD;rw[if_neg (by omega)];unfold exB
  (repeat first|rw[if_pos (by omega)]|rw[if_neg (by omega)])
 rw[e1];unfold eA rE;rw[EF (by omega) (by omega),if_pos b,iY];have a:DJ bT t.kids↔DJ lS t.kids:=by unfold DJ;refine and_congr Iff.rfl (forall_congr' fun i=>forall_congr' fun k=>forall_congr' fun hi=>?_);unfold EX;rw[GJ (hk k (aB hi))]
 by_cases h:DJ bT t.kids
 ·rw[EY h,EY (a.1 h)]
 ·rw[wR h,wR fun h2=>h (a.2 h2)]
def knR(op:Int):Prop:=1≤op∧op≤23∨30≤op∧op≤54∨60≤op∧op≤64
theorem aJt{op:Int}(h:vV op≠[]):tP op=true:=by
 unfold tP;rw[decide_eq_true_eq];intro e;apply h;have:=congrArg (fun x:ByteArray=>x.data.toList) e;simpa using this
theorem QY{op:Int}(h:vV op=[]):tP op=false:=by
 unfold tP;rw[h];simp
theorem aT0:((List.range 65).all fun k=>(tE.getD k []).isEmpty== !(decide (1≤k∧k≤23)||decide (30≤k∧k≤54)||decide (60≤k∧k≤64)))=true:=by decide+kernel
theorem aT1{k:Nat}(h:k<65):(tE.getD k []).isEmpty= !(decide (1≤k∧k≤23)||decide (30≤k∧k≤54)||decide (60≤k∧k≤64)):=eq_of_beq (eJ.1 aT0 k (List.mem_range.2 h))
theorem xC(op:Int):tP op=true↔knR op:=by
 by_cases hr:op<0∨65≤op
 ·rw[QY (MV hr)];unfold knR;constructor
  ·intro h;cases h
  ·intro h;omega
 ·obtain⟨k,rfl⟩:=lD (by omega:0≤op);have h:=aT1 (k:=k) (by omega);have hn:vV (k:Int)=tE.getD k []:=by unfold vV;rw[if_pos (by omega),aG]
  unfold knR;constructor
  ·intro hk;by_cases he:vV (k:Int)=[]
   ·rw[QY he]at hk;cases hk
   ·rw[←hn,List.isEmpty_eq_false_iff.2 he]at h;simp at h;omega
  ·intro hk;refine aJt fun he=>?_;rw[←hn,he]at h;simp at h;omega
theorem aJu{t:T}(h:¬knR t.op):bO t=⟨#[33]⟩:=by
 unfold knR at h;unfold bO
 (repeat rw[if_neg (by omega)])
 unfold kA
 (repeat rw[if_neg (by omega)])
theorem aFi{t:T}(h:rE t=true):tP t.op=true:=by
 rw[xC];refine Classical.byContradiction fun hn=>?_;unfold rE at h;rw[aJu hn]at h;have:¬t.op=36:=fun e=>hn (by unfold knR;omega);rw[if_neg this]at h;simp at h
theorem aNr{t:T}(hf:OkF t)(hk:∀k∈t.kids,OkF k)(a:tP t.op=true)(c:t.op=54→t.n=0∨t.n=1)(b:t.op=39→0≤t.n∧t.n≤5):bD t=eA t:=by
 rw[xC]at a;unfold knR at a;rcases(by omega:(t.op=1∨t.op=6)∨t.op=2∨t.op=3∨t.op=4∨t.op=5∨(t.op=7∨t.op=15∨t.op=16)∨(t.op=8∨t.op=18)∨t.op=9∨t.op=10∨(t.op=11∨t.op=12)∨t.op=13∨t.op=14∨t.op=17∨t.op=19∨t.op=20∨t.op=21∨t.op=22∨t.op=23∨30≤t.op)with h|h|h|h|h|h|h|h|h|h|h|h|h|h|h|h|h|h|h
 ·exact aNi t h hk
 ·exact aRt t h hk
 ·exact aNm t h hk
 ·exact aNk t h hf hk
 ·exact aGn t h hk
 ·exact aNj t h hk
 ·exact aNl t h hk
 ·exact aT5 t h hk
 ·exact aRy t h hk
 ·exact aJo t h hk
 ·exact aJl t h hk
 ·exact aT6 t h hk
 ·exact aRw t h hk
 ·exact aRu t h hk
 ·exact aJp t h hk
 ·exact aGd t h hk
 ·by_cases hn:t.n=1
  ·exact aJr t h hn hk
  ·exact aJq t h hn hk
 ·exact aJn t h hk
 ·rcases(by omega:(t.op=30∨t.op=31∨t.op=32∨t.op=33∨t.op=34∨t.op=35∨t.op=40)∨t.op=36∨t.op=37∨t.op=38∨t.op=39∨(t.op=41∨t.op=42)∨t.op=43∨(t.op=44∨t.op=45∨t.op=52)∨t.op=46∨t.op=47∨t.op=48∨(t.op=49∨t.op=50)∨t.op=51∨t.op=53∨t.op=54∨60≤t.op)with h|h|h|h|h|h|h|h|h|h|h|h|h|h|h|h
  ·exact aRx t h hk
  ·exact aJm t h hk
  ·exact aJs t h hk
  ·exact aGp t h hk
  ·have b:=b h;by_cases hm:t.m=1
   ·rcases(by omega:t.n=0∨t.n=1∨t.n=2∨t.n=3∨t.n=4∨t.n=5)with hn|hn|hn|hn|hn|hn
    ·exact aGm t h hn hm hk
    ·exact aGk t h hn hm hk
    ·exact aGi t h hn hm hk
    ·exact YD t h hn hk
    ·exact YC t h hn hk
    ·exact aGg t h hn hm hk
   ·rcases(by omega:t.n=0∨t.n=1∨t.n=2∨t.n=3∨t.n=4∨t.n=5)with hn|hn|hn|hn|hn|hn
    ·exact aGl t h hn hm hk
    ·exact aGj t h hn hm hk
    ·exact aGh t h hn hm hk
    ·exact YD t h hn hk
    ·exact YC t h hn hk
    ·exact aGf t h hn hm hk
  ·exact aGe t h hk
  ·exact aGc t h hk
  ·exact aR0 t h hk
  ·by_cases hs:t.s=⟨#[61]⟩
   ·exact aNq t h hs hk
   ·exact aNp t h hs hk
  ·exact aNn t h hk
  ·exact aRv t h hk
  ·exact aNo t h hk
  ·exact aRz t h hk
  ·exact YG t h
  ·rcases c h with hn|hn
   ·exact aGb t h hn hk
   ·exact aGa t h hn hk
  ·rcases(by omega:t.op=60∨t.op=61∨t.op=62∨t.op=63∨t.op=64)with h|h|h|h|h
   ·exact aGq t h hk
   ·exact aGo t h hk
   ·by_cases hm:t.m=1
    ·exact YE t h hm hk
    ·exact YF t h hm hk
   ·exact aBs t h hk
   ·exact aNh t h hk
theorem aL6{t:T}(h:OkF t):fR (gL t) 5=fR (fX t) 5:=by
 unfold fR;congr 1;apply List.filter_congr;intro m hm;refine mT h ?_;have:=bE hm;unfold aLw at this;simp at this⊢;omega
theorem RX(t:T):nV t=lA t:=by
 unfold nV lA;by_cases h4:t.op=4
 ·rw[if_pos h4,if_pos h4];congr 1;unfold AY fnT;by_cases h1:t.n<0∨255<t.n∨t.s≠⟨#[]⟩∧lI t.s=false
  ·rw[if_pos h1,if_pos h1]
  ·have hf:OkF t:=fun _=>by omega
   rw[if_neg h1,if_neg h1,aL6 hf,aUh hf,mT hf (by simp),mT hf (by simp),mT hf (by simp),mT hf (by simp)];cases fX t 4<;>cases fX t 2<;>cases fX t 16<;>cases fX t 32<;>simp
 ·rw[if_neg h4,if_neg h4]
theorem NZ{t:T}(h:lA t=true):OkF t:=fun h4=>by
 unfold lA at h;split at h
 ·cases h
 ·unfold fnT at h;split at h
  ·cases h
  ·omega
theorem ZL{t:T}(h:lA t=true)(h4:t.op≠4):0≤t.n∧t.n≤lB t.op:=by
 unfold lA at h;split at h
 ·cases h
 ·rw[aM,aM,decide_eq_true_eq,decide_eq_true_eq]at h;exact h.1
def yW(t:T)(i:Nat)(k:T)(spine:Bool):Bool:=decide (i=0)&&(decide (t.op=53)||spine&&(iC t&&iC k))
inductive RA:T→Bool→Prop
 |mk {t:T} {spine:Bool} (hf:lA t=true) (hl:¬(iC t=true∧t.n=1∧spine=false)) (hk:eA t=true) (hr:∀(i:Nat) (k:T),t.kids[i]? =some k→RA k (yW t i k spine)):RA t spine
noncomputable def raB (t:T) (spine:Bool):Bool:=dB (RA t spine)
theorem aPx{t:T}{s:Bool}(h:RA t s):raB t s=true:=by unfold raB;exact aLk h
theorem CP{t:T}{s:Bool}(h:¬RA t s):raB t s=false:=by unfold raB;exact aLl h
theorem wW{t:T}{s:Bool}(h:raB t s=true):RA t s:=by unfold raB at h;exact CD h
theorem uE{t:T}{s:Bool}(h:raB t s=false):¬RA t s:=by unfold raB at h;exact ZS h
theorem RA.okF{t:T}{s:Bool}(h:RA t s):OkF t:=by
 cases h with
 |mk hf _ _ _=>exact NZ hf
theorem YI{t:T}(hf:lA t=true)(hk:∀k∈t.kids,OkF k)(a:tP t.op=true):bD t=eA t:=by
 refine aNr (NZ hf) hk a (fun h=>?_) (fun h=>?_)
 ·have h2:=ZL hf (by omega);have:lB t.op=1:=by unfold lB;rw[if_pos (by omega)]
  omega
 ·have h2:=ZL hf (by omega);have:lB t.op=5:=by unfold lB;(repeat first|rw[if_pos (by omega)]|rw[if_neg (by omega)])
  omega
theorem aP2{t k:T}{i:Nat}{s:Bool}(hk:eA t=true)(hi:t.kids[i]? =some k):onT t i k s=yW t i k s:=by
 unfold onT yW;by_cases h0:i=0
 ·subst h0;by_cases a:t.op=53
  ·have hl:iC k=true:=by
    rw[←YG t a]at hk;have e1:bD t=sM t.kids:=by
     unfold bD;rw[if_neg (by omega)];unfold exB
     (repeat first|rw[if_pos (by omega)]|rw[if_neg (by omega)])
    rw[e1]at hk;unfold sM at hk;split at hk
    ·rename_i k0 b;rw[b]at hi;cases hi;exact aQd hk
    ·cases hk
   rw[hl,decide_eq_true a];rfl
  ·rw[decide_eq_false a];cases iC k<;>cases iC t<;>cases s<;>rfl
 ·rw[decide_eq_false h0];rfl
theorem aNf{l:List Nat}{x:Nat}(h:x∈l):x≤T.AR l:=by
 induction l with
 |nil=>cases h
 | cons y l ih=>
   show x≤max y (T.AR l)
   rcases aR.1 h with rfl|h
   ·omega
   ·have:=ih h;omega
theorem aFk:∀(t:T) (d:Nat) (s:Bool),Rt t d s↔d+t.depth≤201∧RA t s:=fun t=>T.aBy (p:=fun t=>∀(d:Nat) (s:Bool),Rt t d s↔d+t.depth≤201∧RA t s) (fun t ih d s=>by
 have l:=T.OG t;constructor
 ·intro h;cases h with
  | mk hd hn hk hr=>
    obtain⟨b,hf,hl⟩:=hn;rw[RX]at hf;have a:∀(i:Nat) (k:T),t.kids[i]? =some k→d+1+k.depth≤201∧RA k (onT t i k s):=fun i k hi=>(ih k (aB hi) _ _).1 (hr i k hi);have c:∀k∈t.kids,OkF k:=fun k hk=>by obtain⟨i,hi⟩:=List.mem_iff_getElem?.1 hk;exact(a i k hi).2.okF
    have e:eA t=true:=by rw[←YI hf c b];exact hk
    have j:T.AR (t.kids.map T.depth)≤200-d:=T.aEo fun x g=>by obtain⟨k,hk,rfl⟩:=List.mem_map.1 g;obtain⟨i,hi⟩:=List.mem_iff_getElem?.1 hk;have:=(a i k hi).1;omega
    exact⟨by omega,.mk hf hl e fun i k hi=>by rw[←aP2 e hi];exact(a i k hi).2⟩
 ·rintro⟨hd,h⟩;cases h with
  | mk hf hl hk hr=>
    have b:tP t.op=true:=by unfold eA at hk;rw[aM]at hk;exact aFi hk.1
    have c:∀k∈t.kids,OkF k:=fun k hk=>by obtain⟨i,hi⟩:=List.mem_iff_getElem?.1 hk;exact(hr i k hi).okF
    refine .mk (by omega) ⟨b,by rw[RX];exact hf,hl⟩ (by rw[YI hf c b];exact hk) fun i k hi=>(ih k (aB hi) _ _).2 ⟨?_,by rw[aP2 hk hi];exact hr i k hi⟩;have:=aNf (fG (f:=T.depth) (aB hi));omega) t
theorem aFj(t:T):rtB t 1 false=(decide (t.depth≤200)&&raB t false):=by
 have h:=aFk t 1 false;by_cases h1:Rt t 1 false
 ·obtain⟨h2,h3⟩:=h.1 h1;rw[aDk h1,aPx h3,decide_eq_true (by omega)];rfl
 ·rw[uP h1];by_cases h2:t.depth≤200
  ·rw[decide_eq_true h2,bR,CP fun h3=>h1 (h.2 ⟨by omega,h3⟩)]
  ·rw[decide_eq_false h2];rfl
end
section
open Go.RowKit Go.Vcg
attribute [local irreducible] G GC GQ GA eV Calls IntKind.wrap Int.decLt Int.decLe
theorem aHb(l:List Nat)(x:Nat):T.AR (l++[x])=max (T.AR l) x:=by
 induction l with
 |nil=>simp[T.AR]
 | cons y l ih=>
   show max y (T.AR (l++[x]))=max (max y (T.AR l)) x
   rw[ih];omega
theorem WU:∀(n:Nat),n≤100000→∀(t:T) (v:Value) (w:World) (μ:Mem),MOk μ w→t.size≤n→TV μ t v→
 bC 23 #[v] w (.int .i64 t.depth):=by
 intro n;induction n with
 |zero=>intro _ t v w μ hμ hn _;exact absurd hn (by rw[T.size_eq];omega)
 | succ n ih=>
   intro o t v w μ hμ hn ht;have hlen:=T.aJg t;have j:=T.OG t;have r:=T.OF _ t hn;obtain⟨u,rfl,hk⟩:=ht;obtain⟨A,c,rfl,p,f⟩:=hk.form;refine aF Tryz.func23 rfl Tryz.ntmps23 (by simp) hμ ?_;try repeat' (first|refine KZ ?_|refine NB fun b=>?_)
   refine cD (ι:=Nat) (fun i=>i≤t.kids.length) (fun i=>t.kids.length-i) (fun _=>μ) (fun i=>[(3,.int .i64 ((T.AR ((t.kids.take i).map T.depth):Nat):Int)),(4,.int .i64 i),(1,.pointer (some ⟨b,0,none⟩))]) (fun _=>[.inl ⟨b,24,6,idx 0 (cO t (.slice A t.kids.length c))⟩]) 0 (by simp) (fun a w hs=>J6 hs) ?_;intro i q;by_cases hlt:i<t.kids.length
   ·obtain⟨ad,x,rfl,hm,ho,h⟩:=f i _ (aA hlt);have l:=T.fY (aA hlt);try repeat' (first|refine KO ?_|((with_reducible apply C1);exact rfl;exact EN;exact fun w μc hw g=>ih (by omega) _ _ w μc hw (by omega) ⟨x,rfl,h.mono g.le⟩)|(refine KV (b:=by first|exact U1 i|exact U4 hm) (c:=?_))|refine KZ ?_)
    have e:(if((T.AR ((t.kids.take i).map T.depth):Nat):Int)< (t.kids[i].depth:Int)then(t.kids[i].depth:Int)else((T.AR ((t.kids.take i).map T.depth):Nat):Int))=((T.AR ((t.kids.take (i+1)).map T.depth):Nat):Int):=by rw[iQ hlt,bJ,aL,iR,aHb];split<;>omega
    rw[e];refine J4 (i+1) (by omega) (by omega)
   ·have hi:i=t.kids.length:=by omega
    subst hi;rw[lX];try repeat' (refine KZ ?_)
    exact MC rfl (by exact cX rfl) (by rw[j];congr 1;omega)
end
section
open Go.RowKit Go.Vcg
theorem aTs{t:T}(e:t.op=19)(h:rE t=true):∃x y z,t.kids=[x,y,z]:=by
 have e2:bO t=⟨#[66,67,89]⟩:=by
  unfold bO
  (repeat first|rw[if_pos (by omega)]|rw[if_neg (by omega)])
 unfold rE at h;rw[if_neg (by omega),e2,decide_eq_true (by decide),bR,show bl ⟨#[66,67,89]⟩=[66,67,89]from rfl,nS 66 (by decide) (by decide) (nS 67 (by decide) (by decide) (iM 89 eY))]at h;exact aUs (a:=isT 66) (b:=isT 67) (c:=isT 89) h
theorem aTt{t:T}(a:t.op=53)(h:rE t=true):∃x,t.kids=[x]:=by
 have e2:bO t=⟨#[99]⟩:=by
  unfold bO
  (repeat rw[if_neg (by omega)])
  unfold kA
  (repeat first|rw[if_pos (by omega)]|rw[if_neg (by omega)])
 unfold rE at h;rw[if_neg (by omega),e2,decide_eq_true (by decide),bR,show bl ⟨#[99]⟩=[99]from rfl,iM 99 eY,rK]at h;match hk:t.kids with
 |[]=>rw[hk]at h;simp at h
 |[x]=>exact⟨x,rfl⟩
 | x::y::r=>
   rw[hk]at h;simp only[mQ]at h;split at h
   ·simp at h
   ·cases h
theorem aEh{t x y z:T}(h:t.op=19)(hk:t.kids=[x,y,z]):vE t=(decide (y.op≠7)||decide (z.op≠7)):=by
 unfold vE;rw[if_pos h,if_neg (by omega),hk,iY]
theorem aEg{t x:T}(h:t.op=53)(hk:t.kids=[x]):vE t=chB x:=by
 unfold vE;rw[if_neg (by omega),if_pos h,hk,bR]
theorem LP{c:Prop}[Decidable c]{a b:ByteArray}(e:a.size≤1000)(hb:b.size≤1000):(if c then a else b).size≤1000:=by split<;>assumption
theorem aNt(t:T)(c:UInt8):(pP t++⟨#[c]⟩).size≤1000:=by
 rw[ByteArray.size_append,aGs];show 1+1≤1000
 decide
theorem aBv(t:T):(bO t).size≤1000:=by
 have h2:(tU t).size≤1000:=by
  unfold tU
  (repeat' first|exact aNt t _|apply LP|decide)
 have h3:(kA t).size≤1000:=by
  unfold kA
  (repeat' first|exact h2|apply LP|decide)
 unfold bO
 (repeat' first|exact h3|apply LP|decide)
attribute [local irreducible] lA bO iC rE vE raB pT nR chB rtB G GC GQ GA eV Calls IntKind.wrap Int.decLt Int.decLe
theorem aFn:∀(n:Nat),n≤100000→∀(t:T) (u:Value) (spine:Bool) (w:World) (μ:Mem),MOk μ w→KR μ t.kids u→t.size≤n→Sh t→
 bC 24 #[.agg (cO t u).toArray,.bool spine] w (.bool (raB t spine)):=by
 intro n;induction n with
 |zero=>intro _ t u spine w μ hμ hk hn;exact absurd hn (by rw[T.size_eq];omega)
 | succ n ih=>
   intro bb t u spine w μ hμ hk hn ai;have ho:=hk.one;have a1:=aPo ai;unfold lO at a1;have a8:=PG ai;have ap:∀k∈t.kids,T.size k≤100000∧k.s.size≤65536:=fun k hk=>by obtain⟨i,hi⟩:=List.mem_iff_getElem?.1 hk;have h1:=T.fY hi;have h2:=PG (wE ai hk);exact⟨by omega,by omega⟩
   have al:∀k∈t.kids,Sh' k:=fun k hk=>aIc (wE ai hk);have hlen:=eT t;have ax:=aBv t;obtain⟨A,c,rfl,bc,p⟩:=hk.form;have c2:=fun w μc hw (hle:MLe μ μc)=>TO t _ w μc hw (hk.mono hle) (by omega) (by omega);have c3:=fun w μc hw (hle:MLe μ μc)=>xV t _ w μc hw (hk.mono hle) (by omega) (by omega);have c4:=fun w μc hw (hle:MLe μ μc)=>aBu t _ w μc hw (hk.mono hle);have c5:=fun w μc hw (hle:MLe μ μc)=>aIj (bO t) ax t.kids A t.kids.length c w μc hw (hk.mono hle) rfl (by omega) ap;have c6:=fun w μc hw (hle:MLe μ μc)=>ME t.kids A t.kids.length c w μc hw (hk.mono hle) rfl (by omega) ap;refine aF Tryz.func24 rfl Tryz.ntmps24 (by simp) hμ ?_;by_cases h1:lA t=true∧¬(iC t=true∧t.n=1∧spine=false)
   ·obtain⟨hf,hl⟩:=h1;rw[hf]at c2;try repeat' (first|((with_reducible show GC _ _ (Code.seq (Code.seq (Code.region 1 _ _) _) _) _ _ _ _);(apply dX))|refine KZ ?_|refine NB fun b=>?_)
    refine gcs (iT (ι:=Unit) (fun _=>True) (fun _=>μ) (fun _=>[(1,.bool spine),(2,.pointer (some ⟨b,0,none⟩))]) (fun _=>[.inl ⟨b,24,6,idx 0 (cO t (.slice A t.kids.length c))⟩]) ?_ ?_)
    ·try repeat' (first|refine KO ?_|refine K2 42 c2 ?_|refine K2 43 c3 ?_|refine KZ ?_|(refine KB ?_ ?_<;>intro hp))
     all_goals try(exfalso;apply hl;refine⟨?_,?_,?_⟩<;>assumption)
     all_goals exact J1 () trivial
    intro _ _;try repeat' (first|((with_reducible show GC _ _ (Code.seq (Code.seq (Code.region 4 _ _) _) _) _ _ _ _);(apply dX))|refine KZ ?_)
    refine gcs (iT (ι:=Unit) (fun _=>True) (fun _=>μ) (fun _=>[(5,.bool (rE t)),(1,.bool spine),(2,.pointer (some ⟨b,0,none⟩))]) (fun _=>[.inl ⟨b,24,6,idx 0 (cO t (.slice A t.kids.length c))⟩]) ?_ ?_)
    ·by_cases az:t.op=36
     ·have hg:rE t=nR lS t.kids:=by unfold rE;rw[if_pos az]
      rw[hg];try repeat' (first|refine KO ?_|refine K2 44 c6 ?_|refine KZ ?_)
      all_goals exact J1 () trivial
     ·have hg:rE t=(decide (bO t≠⟨#[33]⟩)&&pT (bl (bO t)) t.kids):=by unfold rE;rw[if_neg az]
      generalize hB:rE t=rb at hg⊢;generalize hR:pT (bl (bO t)) t.kids=rp at hg c5;by_cases hK:bO t=⟨#[33]⟩
      ·rw[hK]at c4 hg;simp at hg;subst hg;try repeat' (first|refine KO ?_|refine K2 45 c4 ?_|refine KZ ?_)
       all_goals exact J1 () trivial
      ·rw[decide_eq_true hK,bR]at hg;subst hg;generalize bO t=ks at hK c4 c5;try repeat' (first|refine KO ?_|refine K2 45 c4 ?_|refine K2 46 c5 ?_|refine KZ ?_)
       all_goals exact J1 () trivial
    intro _ _;cases ab:rE t
    ·have hR:raB t spine=false:=CP fun h=>by
      cases h with
      |mk _ _ h2 _=>unfold eA at h2;rw[ab]at h2;cases h2
     rw[hR];try repeat' (refine KZ ?_)
     all_goals exact aQ rfl rfl rfl
    cases hex:vE t
    ·have hR:raB t spine=false:=CP fun h=>by
      cases h with
      |mk _ _ h2 _=>unfold eA at h2;rw[hex,gU]at h2;cases h2
     rw[hR];by_cases aj:t.op=19
     ·obtain⟨x,y,z,l⟩:=aTs aj ab;obtain⟨ad1,x1,rfl,ag,ak,af⟩:=p 1 y (by rw[l];rfl);obtain⟨ad2,x2,e2,ao,au,aw⟩:=p 2 z (by rw[l];rfl);cases e2;rw[aEh aj l]at hex;have h3:t.kids.length=3:=by rw[l];rfl
      simp at hex;try repeat' (first|refine KO ?_|(refine KV (b:=by first|exact U1 1|exact U1 2|exact U4 ag|exact U4 ao) (c:=?_))|refine KZ ?_)
      all_goals exact aQ rfl rfl rfl
     ·by_cases q:t.op=53
      ·obtain⟨x,hx⟩:=aTt q ab;obtain⟨ad1,x1,rfl,ag,ak,af⟩:=p 0 x (by rw[hx];rfl);rw[aEg q hx]at hex;have h3:t.kids.length=1:=by rw[hx];rfl
       have ar:=T.fY (t:=t) (i:=0) (k:=x) (by rw[hx];rfl);have c7:=fun w μc hw (hle:MLe μ μc)=>GO 100000 (aC _) x _ w μc hw (af.mono hle) (by omega) (al x (by rw[hx];exact .head _));rw[hex]at c7;try repeat' (first|refine KO ?_|((with_reducible apply C1);exact rfl;exact EN;exact fun w μc hw f=>c7 w μc hw f.le)|(refine KV (b:=by first|exact U1 0|exact U4 ag) (c:=?_))|refine KZ ?_)
       all_goals exact aQ rfl rfl rfl
      ·rw[EF aj q]at hex;cases hex
    have a6:eA t=true:=by unfold eA;rw[ab,hex];rfl
    refine iT (ι:=Unit) (fun _=>True) (fun _=>μ) (fun _=>[(1,.bool spine),(2,.pointer (some ⟨b,0,none⟩))]) (fun _=>[.inl ⟨b,24,6,idx 0 (cO t (.slice A t.kids.length c))⟩]) ?_ ?_
    ·by_cases aj:t.op=19
     ·obtain⟨x,y,z,l⟩:=aTs aj ab;obtain⟨ad1,x1,rfl,ag,ak,af⟩:=p 1 y (by rw[l];rfl);obtain⟨ad2,x2,e2,ao,au,aw⟩:=p 2 z (by rw[l];rfl);cases e2;rw[aEh aj l]at hex;have h3:t.kids.length=3:=by rw[l];rfl
      simp at hex;try repeat' (first|refine KO ?_|(refine KV (b:=by first|exact U1 1|exact U1 2|exact U4 ag|exact U4 ao) (c:=?_))|refine KZ ?_|(refine KB ?_ ?_<;>intro hp))
      all_goals exact J1 () trivial
     ·by_cases q:t.op=53
      ·obtain⟨x,hx⟩:=aTt q ab;obtain⟨ad1,x1,rfl,ag,ak,af⟩:=p 0 x (by rw[hx];rfl);rw[aEg q hx]at hex;have h3:t.kids.length=1:=by rw[hx];rfl
       have ar:=T.fY (t:=t) (i:=0) (k:=x) (by rw[hx];rfl);have c7:=fun w μc hw (hle:MLe μ μc)=>GO 100000 (aC _) x _ w μc hw (af.mono hle) (by omega) (al x (by rw[hx];exact .head _));rw[hex]at c7;try repeat' (first|refine KO ?_|((with_reducible apply C1);exact rfl;exact EN;exact fun w μc hw f=>c7 w μc hw f.le)|(refine KV (b:=by first|exact U1 0|exact U4 ag) (c:=?_))|refine KZ ?_)
       all_goals exact J1 () trivial
      ·try repeat' (refine KZ ?_)
       all_goals exact J1 () trivial
    intro _ _;try repeat' (refine KZ ?_)
    refine cD (ι:=Nat) (fun i=>i≤t.kids.length∧∀(j:Nat) (k:T),j<i→t.kids[j]? =some k→RA k (yW t j k spine)) (fun i=>t.kids.length-i) (fun _=>μ) (fun i=>[(7,.int .i64 i),(1,.bool spine),(2,.pointer (some ⟨b,0,none⟩))]) (fun _=>[.inl ⟨b,24,6,idx 0 (cO t (.slice A t.kids.length c))⟩]) 0 ⟨by omega,fun j _ h=>absurd h (by omega)⟩ (fun a w hs=>J5 hs) ?_;rintro i ⟨hi,av⟩;by_cases hlt:i<t.kids.length
    ·have aa:t.kids[i]? =some t.kids[i]:=aA hlt;generalize t.kids[i]=k at aa;obtain⟨ad,x,rfl,hm,ba,ah⟩:=p i k aa;have ar:=T.fY aa;have r:=wE ai (aB aa);have a7:=PG r;have ck:=fun w μc hw (hle:MLe μ μc)=>xV k _ w μc hw (ah.mono hle) (by omega) (by omega);have o:RA k (yW t i k spine)→∀(j:Nat) (k:T),j<i+1→t.kids[j]? =some k→RA k (yW t j k spine):=fun h j k' hj aq=>by
      rcases dL j i with h1|h1
      ·exact av j k' h1 aq
      ·obtain rfl:j=i:=by omega
       rw[aa]at aq;cases aq;exact h
     by_cases ay:i=0
     ·subst ay;by_cases q:t.op=53
      ·skip
       have g:yW t 0 k spine=true:=by simp[yW,q]
       have e:=fun w μc hw (hle:MLe μ μc)=>ih (by omega) k x true w μc hw (ah.mono hle) (by omega) r;cases hq:raB k true
       ·have hR:raB t spine=false:=CP fun h=>uE hq (by cases h with|mk _ _ _ h4=>exact g▸h4 0 k aa);rw[hR];rw[hq]at e;try repeat' (first|refine KO ?_|refine K2 24 e ?_|(refine KV (b:=by first|exact U1 0|exact U4 hm) (c:=?_))|refine KZ ?_)
        all_goals exact aQ rfl rfl rfl
       ·have v:=o (by rw[g];exact wW hq);rw[hq]at e;try repeat' (first|refine KO ?_|refine K2 24 e ?_|(refine KV (b:=by first|exact U1 0|exact U4 hm) (c:=?_))|refine KZ ?_)
        all_goals exact J2 (0+1) ⟨by omega,v⟩ (by omega)
      ·cases spine
       ·skip
        have g:yW t 0 k false=false:=by simp[yW,q]
        have e:=fun w μc hw (hle:MLe μ μc)=>ih (by omega) k x false w μc hw (ah.mono hle) (by omega) r;cases hq:raB k false
        ·have hR:raB t false=false:=CP fun h=>uE hq (by cases h with|mk _ _ _ h4=>exact g▸h4 0 k aa);rw[hR];rw[hq]at e;try repeat' (first|refine KO ?_|refine K2 24 e ?_|(refine KV (b:=by first|exact U1 0|exact U4 hm) (c:=?_))|refine KZ ?_)
         all_goals exact aQ rfl rfl rfl
        ·have v:=o (by rw[g];exact wW hq);rw[hq]at e;try repeat' (first|refine KO ?_|refine K2 24 e ?_|(refine KV (b:=by first|exact U1 0|exact U4 hm) (c:=?_))|refine KZ ?_)
         all_goals exact J2 (0+1) ⟨by omega,v⟩ (by omega)
       ·cases ae:iC t
        ·rw[ae]at c3;have g:yW t 0 k true=false:=by simp[yW,q,ae]
         have e:=fun w μc hw (hle:MLe μ μc)=>ih (by omega) k x false w μc hw (ah.mono hle) (by omega) r;cases hq:raB k false
         ·have hR:raB t true=false:=CP fun h=>uE hq (by cases h with|mk _ _ _ h4=>exact g▸h4 0 k aa);rw[hR];rw[hq]at e;try repeat' (first|refine KO ?_|refine K2 43 c3 ?_|refine K2 24 e ?_|(refine KV (b:=by first|exact U1 0|exact U4 hm) (c:=?_))|refine KZ ?_)
          all_goals exact aQ rfl rfl rfl
         ·have v:=o (by rw[g];exact wW hq);rw[hq]at e;try repeat' (first|refine KO ?_|refine K2 43 c3 ?_|refine K2 24 e ?_|(refine KV (b:=by first|exact U1 0|exact U4 hm) (c:=?_))|refine KZ ?_)
          all_goals exact J2 (0+1) ⟨by omega,v⟩ (by omega)
        ·rw[ae]at c3;cases an:iC k
         ·rw[an]at ck;have g:yW t 0 k true=false:=by simp[yW,q,ae,an]
          have e:=fun w μc hw (hle:MLe μ μc)=>ih (by omega) k x false w μc hw (ah.mono hle) (by omega) r;cases hq:raB k false
          ·have hR:raB t true=false:=CP fun h=>uE hq (by cases h with|mk _ _ _ h4=>exact g▸h4 0 k aa);rw[hR];rw[hq]at e;try repeat' (first|refine KO ?_|((with_reducible apply F1 43);exact rfl;exact EN;first|(exact fun w μc hw f=>ck w μc hw f.le)|(exact fun w μc hw f=>c3 w μc hw f.le))|refine K2 24 e ?_|(refine KV (b:=by first|exact U1 0|exact U4 hm) (c:=?_))|refine KZ ?_)
           all_goals exact aQ rfl rfl rfl
          ·have v:=o (by rw[g];exact wW hq);rw[hq]at e;try repeat' (first|refine KO ?_|((with_reducible apply F1 43);exact rfl;exact EN;first|(exact fun w μc hw f=>ck w μc hw f.le)|(exact fun w μc hw f=>c3 w μc hw f.le))|refine K2 24 e ?_|(refine KV (b:=by first|exact U1 0|exact U4 hm) (c:=?_))|refine KZ ?_)
           all_goals exact J2 (0+1) ⟨by omega,v⟩ (by omega)
         ·rw[an]at ck;have g:yW t 0 k true=true:=by simp[yW,q,ae,an]
          have e:=fun w μc hw (hle:MLe μ μc)=>ih (by omega) k x true w μc hw (ah.mono hle) (by omega) r;cases hq:raB k true
          ·have hR:raB t true=false:=CP fun h=>uE hq (by cases h with|mk _ _ _ h4=>exact g▸h4 0 k aa);rw[hR];rw[hq]at e;try repeat' (first|refine KO ?_|((with_reducible apply F1 43);exact rfl;exact EN;first|(exact fun w μc hw f=>ck w μc hw f.le)|(exact fun w μc hw f=>c3 w μc hw f.le))|refine K2 24 e ?_|(refine KV (b:=by first|exact U1 0|exact U4 hm) (c:=?_))|refine KZ ?_)
           all_goals exact aQ rfl rfl rfl
          ·have v:=o (by rw[g];exact wW hq);rw[hq]at e;try repeat' (first|refine KO ?_|((with_reducible apply F1 43);exact rfl;exact EN;first|(exact fun w μc hw f=>ck w μc hw f.le)|(exact fun w μc hw f=>c3 w μc hw f.le))|refine K2 24 e ?_|(refine KV (b:=by first|exact U1 0|exact U4 hm) (c:=?_))|refine KZ ?_)
           all_goals exact J2 (0+1) ⟨by omega,v⟩ (by omega)
     ·skip
      have g:yW t i k spine=false:=by simp[yW,ay]
      have e:=fun w μc hw (hle:MLe μ μc)=>ih (by omega) k x false w μc hw (ah.mono hle) (by omega) r;cases hq:raB k false
      ·have hR:raB t spine=false:=CP fun h=>uE hq (by cases h with|mk _ _ _ h4=>exact g▸h4 i k aa);rw[hR];rw[hq]at e;try repeat' (first|refine KO ?_|refine K2 24 e ?_|(refine KV (b:=by first|exact U1 i|exact U4 hm) (c:=?_))|refine KZ ?_)
       all_goals exact aQ rfl rfl rfl
      ·have v:=o (by rw[g];exact wW hq);rw[hq]at e;try repeat' (first|refine KO ?_|refine K2 24 e ?_|(refine KV (b:=by first|exact U1 i|exact U4 hm) (c:=?_))|refine KZ ?_)
       all_goals exact J2 (i+1) ⟨by omega,v⟩ (by omega)
    ·have hR:raB t spine=true:=aPx (.mk hf hl a6 fun j k hj=>av j k (by have:=(List.getElem?_eq_some_iff.1 hj).1;omega) hj);rw[hR];try repeat' (refine KZ ?_)
     all_goals exact aQ rfl rfl rfl
   ·have hR:raB t spine=false:=CP fun h=>by
     cases h with
     |mk h2 h3 _ _=>exact h1 ⟨h2,h3⟩
    rw[hR];try repeat' (first|((with_reducible show GC _ _ (Code.seq (Code.region 3 _ _) _) _ _ _ _);(apply dX))|refine KO ?_|refine K2 42 c2 ?_|refine K2 43 c3 ?_|refine KZ ?_|refine NB fun b=>?_|(refine KB ?_ ?_<;>intro hp))
    all_goals first|exact aQ rfl rfl rfl|(exfalso;clear c2 c3 c4 c5 c6 hk p hμ ap al ai ih;simp_all;done)
theorem zI(t:T)(u:Value)(w:World)(μ:Mem)(hμ:MOk μ w)(hk:KR μ t.kids u)(hs:t.size≤100000)(c:Sh t):
 bC 9 #[.agg (cO t u).toArray] w (.bool (rtB t 1 false)):=by
 have ho:=hk.one;rw[aFj];refine aF Tryz.func9 rfl Tryz.ntmps9 (by simp) hμ ?_;try repeat' (first|refine KO ?_|refine K2 23 (fun w μc hw a=>WU 100000 (aC _) t _ w μc hw hs ⟨u,rfl,hk.mono a⟩) ?_|refine K2 24 (fun w μc hw a=>aFn 100000 (aC _) t u false w μc hw (hk.mono a) hs c) ?_|refine KZ ?_|refine NB fun b=>?_|(refine KB ?_ ?_<;>intro e))
 all_goals(refine aQ rfl rfl ?_;simp_all;try omega)
theorem zA(t:T)(u:Value)(w:World)(μ:Mem)(hμ:MOk μ w)(hk:KR μ t.kids u)(hs:t.size≤100000)(c:Sh t)(e:sO μ):
 bC 38 #[.agg (cO t u).toArray] w (.bool (rtB t 1 false)):=by
 have ho:=hk.one;refine aF Tryz.func38 rfl Tryz.ntmps38 (by simp) hμ ?_;try repeat' (first|refine KZ ?_|((with_reducible apply C1);exact rfl;exact EN;exact fun w μc hw a=>aA2 100000 (aC _) t u 1 false w μc hw (hk.mono a.le) hs (by decide) c (e.mono a.le))|refine NB fun b=>?_)
 exact aQ rfl rfl rfl
end
section
open Go.RowKit Go.Vcg Ou
theorem ZJ{p:T→Bool}{r:List ((T→Bool)×Int)}{l:List T}(h:dS ((p,0)::r) l=true):∃k l',l=k::l' ∧dS r l' =true:=by
 rw[rK]at h;cases l with
 |nil=>cases h
 | cons k l' =>
   dsimp only at h;split at h
   ·exact⟨k,l',rfl,h⟩
   ·cases h
theorem CA{p:T→Bool}{r:List ((T→Bool)×Int)}{l:List T}(h:dS ((p,0)::r) l=true):1≤l.length:=by
 obtain⟨k,l',rfl,-⟩:=ZJ h;simp
theorem aOk{p q:T→Bool}{r:List ((T→Bool)×Int)}{l:List T}(h:dS ((p,0)::(q,0)::r) l=true):2≤l.length:=by
 obtain⟨k,l',rfl,h2⟩:=ZJ h;have:=CA h2;simp;omega
theorem aP6{t:T}{d:Nat}{s:Bool}(h:Rt t d s):Kc t:=by
 cases h with
 | mk hd hn hk hr=>
   refine⟨fun h=>?_,fun h=>?_,fun h k b=>?_⟩
   ·rcases h with h|h|h|h|h|h
    all_goals(unfold bD stB exB iA at hk;simp[h]at hk)
    all_goals exact aOk hk
   ·rcases h with h|h|h|h|h|h|h|⟨h,f⟩
    all_goals(unfold bD stB exB rC at hk;simp[h]at hk)
    all_goals first|exact CA hk|(simp[f]at hk;exact CA hk)
   ·unfold bD stB at hk;simp[h]at hk;unfold jL at hk;have h3:ofT [3] k=true:=eJ.1 (Bool.and_eq_true_iff.1 hk).2 k b;have e:k.op=3:=by simpa[ofT]using h3
    obtain⟨i,hi⟩:=List.mem_iff_getElem?.1 b;have c:=hr i k hi;cases c with
    | mk _ _ a _=>
      unfold bD stB at a;simp[e]at a;exact CA a
theorem aPg(t:T):∀(d:Nat) (s:Bool),Rt t d s→Sh t→dJ qE t:=T.aBy (p:=fun t=>∀(d:Nat) (s:Bool),Rt t d s→Sh t→dJ qE t) (fun t ih d s h hs=>by
 refine .mk ⟨aP6 h,by have:=PG hs;omega⟩ fun k hk=>?_;obtain⟨i,hi⟩:=List.mem_iff_getElem?.1 hk;cases h with
 |mk _ _ _ hr=>exact ih k hk _ _ (hr i k hi) (wE hs hk)) t
theorem aRo:∀(f:Nat) (t:T),dJ qE t→t.size≤f→t.size≤80000→NCk (nbE wdF f).1 t∧BCk (nbE wdF f).2 t:=by
 intro f;induction f with
 | zero=>
   intro t _ h0;have:=aS t;omega
 | succ f ih=>
   intro t hq hf c;have b:=fun(k:T) (hk:dJ qE k)=>RL (F:=FF) (wd:=wdF) (q:=qE) (fun t h=>⟨h.1,fun x=>x⟩) f k hk;have e:∀k,dJ qE k→k.size<t.size→NCk (nbE wdF f).1 k∧NG (nbE wdF f).1 k:=fun k hk h=>⟨(ih k hk (by omega) (by omega)).1,(b k hk).1⟩;have g:∀k,dJ qE k→k.size<t.size→BCk (nbE wdF f).2 k∧BG (nbE wdF f).2 k:=fun k hk h=>⟨(ih k hk (by omega) (by omega)).2,(b k hk).2⟩;have a:∀k∈t.kids,k.size<t.size:=fun k hk=>by have:k.size≤szs t.kids:=T.eL (List.mem_map.2 ⟨k,hk,rfl⟩);have:=aS t;omega
   exact⟨aCe _ _ t hq c e g,aCk _ _ t hq.here.1 hq.here.2 (by omega) (fun k hk=>e k (hq.kid hk) (a k hk)) (fun k hk=>g k (hq.kid hk) (a k hk))⟩
noncomputable def EH (f:Nat) (t:T):Int×Int:=if t.op=1∧rtB t 1 false=true then((yK wdF f t).at',(yK wdF f t).e)else(0,1)
theorem aNc:mkD [] 0=[]:=rfl
theorem aKu:nW []=[]:=rfl
theorem IsV.aI1{μ:Mem}{b t:Nat}{cs:bS}{x:Int}(h:Bk.sh (.inl ⟨b,t,1,cs⟩) μ)(hc:lk cs 0=some (.int .i64 x)):IsV μ (.slice (some ⟨b,0,none⟩) 1 1) [x]:=by
 obtain⟨arr,h1,h2,h3⟩:=h;refine⟨_,_,rfl,⟨rfl,fun _=>⟨_,rfl,fun i y a j v hv=>?_⟩⟩,aC _⟩;cases i with
 |succ i=>simp at a
 | zero=>
   cases a;cases j with
   |succ j=>simp at hv
   | zero=>
     cases hv;exact⟨arr,t,(0,0),h1,rfl,h3 0 _ hc⟩
attribute [local irreducible] wdL anI nW mkD rtB yK G GC GQ GA eV Calls IntKind.wrap Int.decLt Int.decLe
theorem ZP(f:Nat)(t:T)(u:Value)(w:World)(μ:Mem)(hμ:MOk μ w)(hk:KR μ t.kids u)(ai:t.size≤80000)(hf:t.size≤f)(r:Sh t)(hT:sO μ)(hm:vN μ):
 bC 25 #[.agg (cO t u).toArray] w (.tuple #[.int .i64 (EH f t).1,.int .i64 (EH f t).2]):=by
 have ou:=hk.one;have l:=fun w μc hw (hle:MLe μ μc)=>zA t _ w μc hw (hk.mono hle) (by omega) r (hT.mono hle);have i:=fun w μc hw (hle:MLe μ μc)=>GL t _ w μc hw (hk.mono hle) (by omega);unfold EH;obtain⟨A,c,rfl,hcap,ah⟩:=hk.form;refine aF Tryz.func25 rfl Tryz.ntmps25 (by simp) hμ ?_;by_cases v:t.op=1
 rotate_left
 ·rw[if_neg (fun h=>v h.1)];try repeat' (first|refine KZ ?_|refine NB fun b=>?_)
  all_goals exact wG rfl (cX rfl) (cX rfl) rfl rfl
 cases p:rtB t 1 false with
 | false=>
   rw[if_neg (fun h=>by cases h.2)];rw[p]at l;try repeat' (first|refine KZ ?_|((with_reducible apply C1);exact rfl;exact EN;exact fun w μc hw o=>l w μc hw o.le)|refine NB fun b=>?_)
   all_goals exact wG rfl (cX rfl) (cX rfl) rfl rfl
 | true=>
   rw[if_pos ⟨v,rfl⟩];rw[p]at l;have hq:=aPg t 1 false (iL p) r;have aj:=aS t;have hlen:=iG t.kids;have g:∀k∈t.kids,k.size<t.size:=fun k hk=>by have:k.size≤szs t.kids:=T.eL (List.mem_map.2 ⟨k,hk,rfl⟩);omega
   have hN:∀k∈t.kids,NCk (nbE wdF f).1 k∧NG (nbE wdF f).1 k:=fun k hk=>⟨(aRo f k (hq.kid hk) (by have:=g k hk;omega) (by have:=g k hk;omega)).1,(RL (F:=FF) (wd:=wdF) (q:=qE) (fun t h=>⟨h.1,fun x=>x⟩) f k (hq.kid hk)).1⟩;have ag:yK wdF f t=nC (nbE wdF f).1 t.kids (LN t) ⟨[],1,0,0⟩:=by unfold yK;rfl
   rw[ag];have af:LN t=⟨qG t,false,false,false,[1],[],[],false,false,[],true,false⟩:=rfl;rw[af];generalize qG t=stc at i⊢;try repeat' (first|((with_reducible show GC _ _ (Code.seq (Code.region 4 _ _) _) _ _ _ _);(apply dX))|refine KZ ?_|((with_reducible apply C1);exact rfl;exact EN;exact fun w μc hw o=>l w μc hw o.le)|refine NB fun b=>?_|((with_reducible apply UN);exact rfl;exact rfl;intro b))
   rename_i bn bm;obtain⟨bx,aa⟩:∃y,y=b:=⟨_,rfl⟩;rw[←aa];clear aa;refine gcs (aB4 (l' :=[(1,.pointer (some ⟨bn,0,none⟩)),(4,.pointer (some ⟨bx,0,none⟩))]) (L' :=.inl ⟨bn,24,6,idx 0 (cO t (.slice A t.kids.length c))⟩::EB bx bm ⟨[],1,0,0⟩ []) PU (by rw[aE1,aNc,aKu];exact tB (.refl _) (fA (.cells PU) (fA (.refl _) (.nil _)))) ?_);have ae:∀μ',ER μ' [] ⟨[],1,0,0⟩:=fun μ' =>⟨rfl,fun f hf=>by simp at hf⟩;have ab:SB ⟨[],1,0,0⟩ (szs t.kids):=by
    show 1+0+2*szs t.kids≤900000
    omega
   have ad:∀k∈t.kids,PB ⟨stc,false,false,false,[1],[],[],false,false,[],true,false⟩ k.size:=fun k hk=>⟨Nat.succ_pos _,by show 1+k.size≤90000;have:=g k hk;omega,by show 0+k.size≤90000;have:=g k hk;omega,aC _⟩;try repeat' (refine KZ ?_)
   refine aZ 9 _ (by kernel_rfl) rfl (aD aT) ?_;all_goals(refine DD 0 ?_;refine DD 1 ?_;refine DD 2 ?_;refine DD 3 ?_)
   refine iZ 4 5 (by kernel_rfl) ?dr16_4 ?dr16_5
   case' dr16_4=>
    (refine D5 ?_;refine K2 49 i ?_;refine D9 ?_)
    all_goals(refine D3 5 ?_;refine D5 ?_;refine NB fun b=>?_;refine D9 ?_;refine DD 6 ?_;refine DD 7 ?_)
    all_goals(refine D3 8 ?_;refine D5 ?_;(refine CF 48 ?_;refine pG rfl ?_;intro μ4 a j;have hv:=IsV.aI1 (x:=1) j rfl;(with_reducible apply jP 1);(iterate 3 exact rfl);exact EN;exact rfl;exact ae _;exact lK (nbE wdF f).1 t.kids _ _ ⟨stc,false,false,false,[1],[],[],false,false,[],true,false⟩ ⟨[],1,0,0⟩ _ bx bm hN (hk.mono a) ⟨_,_,_,_,rfl,hv,SsV.nil _,SsV.nil _,SsV.nil _⟩ ad ab (by omega) (hm.mono a);intro v1 μ1 i1 z hR;dsimp only[aU,aY]);refine D9 ?_)
    all_goals refine D8 ?_
   case' dr16_5=>
    (refine D5 ?_;refine NB fun b=>?_;refine D9 ?_)
    all_goals(refine D3 4 ?_;refine D5 ?_;refine K2 49 i ?_;refine D9 ?_;refine DD 6 ?_;refine DD 7 ?_)
    all_goals(refine D3 8 ?_;refine D5 ?_;(refine CF 48 ?_;refine pG rfl ?_;intro μ4 a j;have hv:=IsV.aI1 (x:=1) j rfl;(with_reducible apply jP 1);(iterate 3 exact rfl);exact EN;exact rfl;exact ae _;exact lK (nbE wdF f).1 t.kids _ _ ⟨stc,false,false,false,[1],[],[],false,false,[],true,false⟩ ⟨[],1,0,0⟩ _ bx bm hN (hk.mono a) ⟨_,_,_,_,rfl,hv,SsV.nil _,SsV.nil _,SsV.nil _⟩ ad ab (by omega) (hm.mono a);intro v1 μ1 i1 z hR;dsimp only[aU,aY]);refine D9 ?_)
    all_goals refine D8 ?_
   all_goals generalize nC (nbE wdF f).1 t.kids ⟨stc,false,false,false,[1],[],[],false,false,[],true,false⟩ ⟨[],1,0,0⟩=s' at hR⊢
   all_goals try repeat' (refine KZ ?_)
   all_goals refine lT (show _=_::Bk.inl ⟨bx,95,4,[(0,.map (some bm)),(1,.int .i64 (s'.regs:Int)),(2,.int .i64 s'.at'),(3,.int .i64 s'.e)]⟩::.mp ⟨bm,mkD i1 0,i1.length⟩::nW i1 from rfl) ?_
   all_goals
    refine aZ 10 _ (by kernel_rfl) rfl (cP (aD aT)) ?_;all_goals(refine DD 0 ?_;refine DD 1 ?_;refine DD 2 ?_;refine DD 3 ?_;refine DD 4 ?_;refine DD 5 ?_;refine DD 6 ?_;refine DD 7 ?_;refine DD 8 ?_;refine DD 9 ?_;refine D8 ?_)
   all_goals try repeat' (refine KZ ?_)
   all_goals exact wG rfl (cX rfl) (cX rfl) rfl rfl
end
section
open Go.RowKit Go.Vcg Go.MapKept
theorem CH(k:Int)(l:List Bd):dT k [] l=l:=rfl
theorem yN{k:Int}{xs:List ByteArray}{l:List Bd}{j:Nat}{x:ByteArray}(h:xs[j]? =some x):dT k (xs.take (j+1)) l=jY x k (dT k (xs.take j) l):=by
 unfold dT;rw[cG,iK,h];rfl
theorem lM{α β:Type}(g:β→α→β){xs:List α}{l:β}{j:Nat}{x:α}(h:xs[j]? =some x):(xs.take (j+1)).foldl g l=g ((xs.take j).foldl g l) x:=by
 rw[cG,iK,h];rfl
theorem HA(l:List T)(j:Nat):szs (l.take j)≤szs l:=by
 have e:szs l=szs (l.take j)+szs (l.drop j):=by rw[←BE,dN]
 omega
attribute [local irreducible] jY dT eM bF anI FB iB G GC GQ GA eV Calls IntKind.wrap Int.decLt Int.decLe
theorem GX(t:T)(u lv:Value)(l:List Bd)(μ:Mem)(hk:KR μ t.kids u)(hn:t.n=0∨t.n=1∨t.n=2)(hd:∀d∈t.kids,1≤d.kids.length)(bb:t.size≤2000)(hl:l.length+szs t.kids≤10000000):
 RC 62 [lv,.agg (cO t u).toArray] lv l (eM t l) μ:=by
 intro w hμ hO;have ah:=dW hO.diff;have ou:=hk.one;have bc:=aS t;have au:=iG t.kids;obtain⟨A,c,rfl,hcap,ag⟩:=hk.form;generalize ae:eM t l=l';unfold eM at ae;refine cI Tryz.func62 rfl Tryz.ntmps62 (by simp) hμ hO ?_;refine gT 0 rfl ?_;rintro Al cl rfl bg;try repeat' (first|((with_reducible show GC _ _ (Code.seq (Code.region 1 _ _) _) _ _ _ _);(apply dX))|refine KZ ?_|refine NB fun b=>?_)
 refine gcs (iT (ι:=Unit) (fun _=>True) (fun _=>μ) (fun _=>[(5,.int .i64 t.n),(3,.pointer (some ⟨b,0,none⟩)),(0,.slice Al l.length cl)]) (fun _=>[.inl ⟨b,24,6,[(5,.slice A t.kids.length c)]⟩,mF (.slice Al l.length cl) l]) ?_ ?_)
 ·rcases hn with hn|hn|hn
  all_goals rw[hn]
  all_goals try repeat' (first|refine KO ?_|(refine KV (b:=by first|exact U1 0|exact U1 1|exact U1 2) (c:=?_))|refine KZ ?_|refine NB fun b=>?_)
  all_goals exact J1 () trivial
 rintro⟨⟩-;try repeat' (refine KZ ?_)
 refine cD (ι:=Nat×Value×Mem) (fun q=>q.1≤t.kids.length∧MLe μ q.2.2) (fun q=>t.kids.length-q.1) (fun q=>q.2.2) (fun q=>[(18,.int .i64 (q.1:Int)),(17,.int .i64 (t.kids.length:Int)),(16,.slice A t.kids.length c),(5,.int .i64 t.n),(0,q.2.1)]) (fun q=>[mF q.2.1 ((t.kids.take q.1).foldl (fun l d=>dT t.n (bB (cQ d 0)) l) l)]) (0,.slice Al l.length cl,μ) ⟨aN _,MLe.refl _⟩ (fun a w hs=>hs.sel PU (eB (.refl _) (.nil _))) ?_;rintro⟨i,v,μi⟩ ⟨hi,hle⟩;dsimp only at hi hle⊢;by_cases hlt:i<t.kids.length
 ·obtain⟨d,g⟩:∃d,t.kids[i]? =some d:=⟨_,aA hlt⟩;obtain⟨ad,x,rfl,ar,bf,av⟩:=ag i d g;have an:=ar.mono hle;have h:=aB g;have bj:=hd d h;have bi:d.size≤szs t.kids:=T.eL (List.mem_map.2 ⟨d,h,rfl⟩);have bd:=kK g;have aj:((t.kids.take i).foldl (fun l d=>dT t.n (bB (cQ d 0)) l) l).length≤l.length+szs (t.kids.take i):=by have:=oE ⟨t.op,t.at',t.n,t.m,t.s,t.kids.take i⟩ l;unfold eM at this;exact this
  have e:=lM (fun l d=>dT t.n (bB (cQ d 0)) l) (l:=l) g;generalize (t.kids.take i).foldl (fun l d=>dT t.n (bB (cQ d 0)) l) l=acc at aj e⊢;obtain⟨A0,c0,rfl,a1,o⟩:=(av.mono hle).form;obtain⟨d0,p⟩:∃d0,d.kids[0]? =some d0:=⟨_,aA (by omega)⟩;obtain⟨ad0,x0,rfl,aq,a7,af⟩:=o 0 d0 p;have aw:=jE p;rw[aw]at e;have ba:=T.fY p;have bh:=kQ d0;have al:=fun w μc hw (hle:MLe μi μc)=>xZ d0 w μc x0 hw (af.mono hle) (by omega);try repeat' (first|refine KO ?_|((with_reducible apply C3);exact rfl;exact EN;(exact fun w μc hw ak=>al w μc hw ak.le);intro v2;(with_reducible apply fI 0);exact rfl;rintro A2 c2 rfl a8)|(refine KV (b:=by first|exact U1 i|exact U1 0|exact U4 an|exact U4 aq) (c:=?_))|refine KZ ?_|refine NB fun b=>?_)
  refine qN rfl ?_;intro μ2 ab z;have a6:=SsV.nH (xs:=bB d0) z rfl rfl;obtain⟨A3,c3,e3,hS,bk⟩:=a6;cases e3;refine cD (ι:=Nat×Value×Mem) (fun q=>q.1≤(bB d0).length∧MLe μ2 q.2.2) (fun q=>(bB d0).length-q.1) (fun q=>q.2.2) (fun q=>[(28,.int .i64 (q.1:Int)),(27,.int .i64 ((bB d0).length:Int)),(26,.slice A2 (bB d0).length c2),(18,.int .i64 (i:Int)),(17,.int .i64 (t.kids.length:Int)),(16,.slice (some ad) t.kids.length c),(5,.int .i64 t.n),(0,q.2.1)]) (fun q=>[mF q.2.1 (dT t.n ((bB d0).take q.1) acc)]) (0,v,μ2) ⟨aN _,MLe.refl _⟩ (fun a w hs=>hs.sel PU (by rw[jW,CH];exact eB (.refl _) (.nil _))) ?_;rintro⟨j,v3,μ3⟩ ⟨hj,f⟩;dsimp only at hj f⊢;by_cases ax:j< (bB d0).length
  ·obtain⟨ad3,y,rfl,hy,ap⟩:=hS.get ax;have ao:=ap.mono f;have r:=yN (k:=t.n) (l:=acc) hy;have ai:=oI t.n ((bB d0).take j) acc;rw[cM]at ai;generalize dT t.n ((bB d0).take j) acc=acc2 at r ai⊢;try repeat' (first|refine KO ?_|(refine CF 64 ?_;(with_reducible apply rI 0);(iterate 3 exact rfl);exact EN;exact rfl;(exact GU acc2 _ y t.n _ (by omega));(intro v4 μ4 aa);(dsimp only[fT]))|(refine KV (b:=by first|exact U1 j|exact U3 (ao.at 0 rfl)) (c:=?_))|refine KZ ?_)
   all_goals rw[←r]
   all_goals exact cY (j+1,v4,μ4) ⟨by dsimp only;omega,f.trans aa⟩ (by dsimp only;omega) rfl PU (fH _)
  ·have ay:j=(bB d0).length:=by omega
   subst ay;rw[aK (aC _)];try repeat' (refine KZ ?_)
   all_goals rw[←e]
   all_goals exact cY (i+1,v3,μ3) ⟨by dsimp only;omega,(hle.trans ab).trans f⟩ (by dsimp only;omega) rfl PU (fH _)
 ·have az:i=t.kids.length:=by omega
  subst az;rw[aK (aC _)];try repeat' (refine KZ ?_)
  all_goals exact oJ ah rfl (cX rfl) rfl ae
theorem xR(kids:List T)(fs:Bool)(kv lv:Value)(l:List Bd)(μ:Mem)(hk:KR μ kids kv)(hq:∀k∈kids,Ks k)(aj:szs kids≤2000)(hl:l.length+szs kids≤10000000):
 RC 40 [lv,kv,.bool fs] lv l (bF kids fs l) μ:=by
 intro w hμ hO;have ab:=dW hO.diff;have ag:=iG kids;obtain⟨A,c,rfl,hcap,aa⟩:=hk.form;generalize z:bF kids fs l=l';unfold bF at z;refine cI Tryz.func40 rfl Tryz.ntmps40 (by simp) hμ hO ?_;refine gT 0 rfl ?_;rintro Al cl rfl al;try repeat' (refine KZ ?_)
 refine cD (ι:=Nat×Value×Mem) (fun q=>q.1≤kids.length∧MLe μ q.2.2) (fun q=>kids.length-q.1) (fun q=>q.2.2) (fun q=>[(11,.int .i64 (q.1:Int)),(10,.int .i64 (kids.length:Int)),(9,.slice A kids.length c),(2,.bool fs),(0,q.2.1)]) (fun q=>[mF q.2.1 ((kids.take q.1).foldl (fun l t=>if t.op=2∧t.n≠0 then eM t l else if(jG t 1&&fs)=true then jY t.s 3 l else l) l)]) (0,.slice Al l.length cl,μ) ⟨aN _,MLe.refl _⟩ (fun a w hs=>hs.sel PU (fH _)) ?_;rintro⟨i,v,μi⟩ ⟨hi,hle⟩;dsimp only at hi hle⊢;by_cases hlt:i<kids.length
 ·obtain⟨d,j⟩:∃d,kids[i]? =some d:=⟨_,aA hlt⟩;obtain⟨ad,x,rfl,af,ae,ah⟩:=aa i d j;have h:=af.mono hle;have y:=aB j;have u:=hq d y;have ak:=kK j;have an:=aS d;have p:=jO (kids.take i) fs l;have e:=lM (fun l (t:T)=>if t.op=2∧t.n≠0 then eM t l else if(jG t 1&&fs)=true then jY t.s 3 l else l) (l:=l) j;unfold bF at p;generalize (kids.take i).foldl (fun l (t:T)=>if t.op=2∧t.n≠0 then eM t l else if(jG t 1&&fs)=true then jY t.s 3 l else l) l=acc at p e⊢;have f:=fun(w:World) (μc:Mem) (hw:MOk μc w)=>HC d x ae 1 w μc hw;by_cases o:d.op=2∧d.n≠0
  ·rw[if_pos o]at e;try repeat' (first|refine KO ?_|(refine CF 62 ?_;(with_reducible apply rI 1);(iterate 3 exact rfl);exact EN;exact rfl;(exact GX d x _ acc _ (ah.mono hle) (u.vn o.1) (u.kc.sub o.1) (by omega) (by omega));(intro v4 μ4 g);(dsimp only[fT]))|(refine KV (b:=by first|exact U1 i|exact U4 h) (c:=?_))|refine KZ ?_|refine NB fun b=>?_)
   all_goals rw[←e]
   all_goals exact cY (i+1,v4,μ4) ⟨by dsimp only;omega,hle.trans g⟩ (by dsimp only;omega) rfl PU (eB (.refl _) (.nil _))
  ·rw [if_neg o]at e;cases hb:jG d 1 with
   | false=>
     rw[hb]at f;rw[hb,dV,if_neg (by simp)]at e;try repeat' (first|refine KO ?_|refine K2 63 (fun w μc hw r=>f w μc hw) ?_|(refine KV (b:=by first|exact U1 i|exact U4 h) (c:=?_))|refine KZ ?_|refine NB fun b=>?_|(refine KB ?_ ?_<;>intro hp))
     all_goals(rw[←e];exact cY (i+1,v,μi) ⟨by dsimp only;omega,hle⟩ (by dsimp only;omega) rfl PU (eB (.refl _) (.nil _)))
   | true=>
     rw[hb]at f;cases hf:fs with
     | false=>
       subst hf;rw[hb,bR,if_neg (by simp)]at e;try repeat' (first|refine KO ?_|refine K2 63 (fun w μc hw r=>f w μc hw) ?_|(refine KV (b:=by first|exact U1 i|exact U4 h) (c:=?_))|refine KZ ?_|refine NB fun b=>?_|(refine KB ?_ ?_<;>intro hp))
       all_goals(rw[←e];exact cY (i+1,v,μi) ⟨by dsimp only;omega,hle⟩ (by dsimp only;omega) rfl PU (eB (.refl _) (.nil _)))
     | true=>
       subst hf;rw[hb,bR,if_pos rfl]at e;try repeat' (first|refine KO ?_|refine K2 63 (fun w μc hw r=>f w μc hw) ?_|(refine CF 64 ?_;(with_reducible apply rI 1);(iterate 3 exact rfl);exact EN;exact rfl;(exact GU acc _ d.s 3 _ (by omega));(intro v4 μ4 g);(dsimp only[fT]))|(refine KV (b:=by first|exact U1 i|exact U4 h) (c:=?_))|refine KZ ?_|refine NB fun b=>?_|(refine KB ?_ ?_<;>intro hp))
       all_goals(rw[←e];exact cY (i+1,v4,μ4) ⟨by dsimp only;omega,hle.trans g⟩ (by dsimp only;omega) rfl PU (eB (.refl _) (.nil _)))
 ·have ai:i=kids.length:=by omega
  subst ai;rw[aK (aC _)];try repeat' (refine KZ ?_)
  all_goals exact oJ ab rfl (cX rfl) rfl z
end
section
open Go.RowKit Go.Vcg Go.MapKept
attribute [local irreducible] jY dT eM bF anI FB iB G GC GQ GA eV Calls IntKind.wrap Int.decLt Int.decLe
theorem yB:∀(f:Nat) (t:T) (u lv:Value) (l:List Bd) (μ:Mem),KR μ t.kids u→dJ qS t→t.size≤f→t.size≤2000→l.length+2000*t.size≤10000000→
 RC 161 [lv,.agg (cO t u).toArray] lv l (dR f t l) μ
 | 0,t,_,_,_,_,_,_,h,_,_=>by have:=aS t;omega
 | f +1,t,u,lv,l,μ,hk,hq,hf,ag,hl=>by
   intro w hμ hO;have ab:=dW hO.diff;have ou:=hk.one;have ap:=aS t;have aj:=iG t.kids;have al:=hk;obtain⟨A,c,rfl,hcap,ae⟩:=hk.form;generalize e:dR (f+1) t l=l';unfold dR at e;refine cI Tryz.func161 rfl Tryz.ntmps161 (by simp) hμ hO ?_;refine gT 0 rfl ?_;rintro Al cl rfl au;by_cases h4:t.op=4
   ·rw[if_pos h4]at e;try repeat' (first|refine KZ ?_|refine NB fun b=>?_)
    all_goals refine gO (L' :=[_]) (eB (.refl _) (.nil _)) ?_
    all_goals exact oJ ab rfl (cX rfl) rfl e
   rw[if_neg h4]at e;have ao:=oE t l;obtain⟨l1,o,aw⟩:∃l1,(if t.op=2∧t.n=0 then eM t l else l)=l1∧l1.length≤l.length+szs t.kids:=⟨_,rfl,by split<;>omega⟩;rw[o]at e;try repeat' (first|((with_reducible show GC _ _ (Code.seq (Code.seq (Code.region 3 _ _) _) _) _ _ _ _);(apply dX))|refine KZ ?_|refine NB fun b=>?_)
   refine gcs (iT (ι:=Value×Mem) (fun q=>MLe μ q.2) (fun q=>q.2) (fun q=>[(3,.pointer (some ⟨b,0,none⟩)),(0,q.1)]) (fun q=>[.inl ⟨b,24,6,idx 0 (cO t (.slice A t.kids.length c))⟩,mF q.1 l1]) ?_ ?_)
   ·by_cases y:t.op=2∧t.n=0
    ·rw[if_pos y]at o;try repeat' (first|refine KO ?_|(refine CF 62 ?_;(with_reducible apply rI 1);(iterate 3 exact rfl);exact EN;exact rfl;exact GX t (.slice A t.kids.length c) _ l _ al (hq.here.1.vn y.1) (hq.here.1.kc.sub y.1) ag (by omega);intro v4 μ4 j;dsimp only[fT])|refine KZ ?_)
     all_goals rw[o]
     all_goals exact fJ (_,_) j rfl PU (fH _)
    ·rw[if_neg y]at o;subst o;try repeat' (first|refine KZ ?_|(refine KB ?_ ?_<;>intro hp))
     all_goals exact fJ (_,_) (MLe.refl _) rfl PU (fH _)
   rintro⟨v1,μ1⟩ aa;dsimp only at aa⊢;try repeat' (refine KZ ?_)
   refine cD (ι:=Nat×Value×Mem) (fun q=>q.1≤t.kids.length∧MLe μ q.2.2) (fun q=>t.kids.length-q.1) (fun q=>q.2.2) (fun q=>[(25,.int .i64 (q.1:Int)),(24,.int .i64 (t.kids.length:Int)),(23,.slice A t.kids.length c),(0,q.2.1)]) (fun q=>[mF q.2.1 ((t.kids.take q.1).foldl (fun l k=>dR f k l) l1)]) (0,v1,μ1) ⟨aN _,aa⟩ (fun a w hs=>hs.sel PU (eB (.refl _) (.nil _))) ?_;rintro⟨i,v,μi⟩ ⟨hi,hle⟩;dsimp only at hi hle⊢;by_cases hlt:i<t.kids.length
   ·obtain⟨d,p⟩:∃d,t.kids[i]? =some d:=⟨_,aA hlt⟩;obtain⟨ad,x,rfl,ai,ar,ak⟩:=ae i d p;have ah:=ai.mono hle;have z:=aB p;have av:d.size≤szs t.kids:=T.eL (List.mem_map.2 ⟨d,z,rfl⟩);have aq:=kK p;have af:((t.kids.take i).foldl (fun l k=>dR f k l) l1).length≤l1.length+2000*szs (t.kids.take i):=by
     have h2:=oW (fun l k=>dR f k l) (fun k=>2000*k.size) (t.kids.take i) l1 fun k hk a=>qM f k a (by
      have:k.size≤szs t.kids:=T.eL (List.mem_map.2 ⟨k,bE hk,rfl⟩);omega)
     have h3:∀l:List T,(l.map fun k=>2000*k.size).sum=2000*szs l:=fun l=>by
      induction l with
      |nil=>rfl
      |cons x r ih=>simp only[aL,dY,bK,ih];omega
     rw[h3]at h2;exact h2
    have g:=lM (fun l k=>dR f k l) (l:=l1) p;generalize (t.kids.take i).foldl (fun l k=>dR f k l) l1=acc at af g⊢;try repeat' (first|refine KO ?_|(refine CF 161 ?_;(with_reducible apply rI 1);(iterate 3 exact rfl);exact EN;exact rfl;(exact yB f d x _ acc _ (ak.mono hle) (hq.kid z) (by omega) (by omega) (by omega));(intro v4 μ4 j);(dsimp only[fT]))|(refine KV (b:=by first|exact U1 i|exact U4 ah) (c:=?_))|refine KZ ?_|refine NB fun b=>?_)
    all_goals rw[←g]
    all_goals exact cY (i+1,v4,μ4) ⟨by dsimp only;omega,hle.trans j⟩ (by dsimp only;omega) rfl PU (eB (.refl _) (.nil _))
   ·have an:i=t.kids.length:=by omega
    subst an;rw[aK (aC _)];try repeat' (refine KZ ?_)
    all_goals exact oJ ab rfl (cX rfl) rfl e
end
section
open Go.RowKit Go.Vcg Go.MapKept
def PRC(f:FuncId)(args:List Value)(l' :List Bd)(μ:Mem):Prop:=∀(w:World),MOk μ w→Go.Vcg.Own μ [] w→
 Calls Tryz.prog f args.toArray w fun e w' =>∃(v:Value) (μ' :Mem) (i:Value),e=.returned v∧mW (lH []) w w' μ [mF i l'] μ' ∧v=i
theorem aKa{X:Ctx}{ops:Array Oper}{Q:Exit→Act→World→Prop}{rest:List Oper}{μ:Mem}{l:bS}{L:List Bk}{o:Oper}{d:Nat}{f:FuncId}{args:List Value}{bl' :List Bd}(hd:o.dst=some d)(hn:Nat.blt d X.n=true)(hw:iF ops l o=some true)(hr:Ent Tryz.prog μ l L o f args.toArray)(hc:PRC f args bl' μ)
 (h:∀(v:Value) (μ' :Mem),MLe μ μ' →G Tryz.prog X ops Q rest μ' ((d,v)::l) (mF v bl' ::L)):G Tryz.prog X ops Q (o::rest) μ l L:=
 oU (LB:=[]) (Lr:=L) (Ls:=fun j=>[mF j bl']) (Post:=fun _ v j=>v=j) 0 hd hn hw hr rfl (fun w hμ b=>hc w hμ b) fun v μ' j hle a=>by subst a;exact h v μ' hle
theorem OX(b k j:Nat):Addr.add ⟨b,k,none⟩ j=⟨b,k+j,none⟩:=by cases j<;>simp[Addr.add]
theorem yL{μ:Mem}{b t sz:Nat}{cs:bS}{ps:List (T×Value)}(h:Bk.sh (.inl ⟨b,t,sz,cs⟩) μ)(hc:∀i v,(ps.flatMap AN)[i]? =some v→lk cs i=some v):Sl AN 6 μ (some ⟨b,0,none⟩) ps.length ps:=by
 obtain⟨arr,h1,h2,h3⟩:=h;refine⟨rfl,fun _=>⟨_,rfl,fun i y a j v hv=>?_⟩⟩;have c:j<6:=by have:=(List.getElem?_eq_some_iff.1 hv).1;rw[SC]at this;exact this
 have h4:=(lQ (enc:=AN) SC ps i j y a c).trans hv;have h5:=h3 _ _ (hc _ _ h4);have e:(Addr.add ⟨b,0,none⟩ (i*6)).add j=⟨b,i*6+j,none⟩:=by rw[OX,OX,bG]
 rw[e];exact⟨arr,t,(0,0),h1,rfl,h5⟩
attribute [local irreducible] jY dT eM bF dR anI FB iB G GC GQ GA eV Calls IntKind.wrap Int.decLt Int.decLe
theorem XH(f:Nat)(t:T)(u:Value)(μ:Mem)(hk:KR μ t.kids u)(h4:t.op=4)(hq:dJ qS t)(hf:t.size≤f)(b3:t.size≤2000):
 PRC 136 [.agg (cO t u).toArray] (dM f t) μ:=by
 intro w hμ hO;have ag:=dW hO.diff;have ou:=hk.one;have b4:=aS t;have bp:=hq.here.1.kc.two (.inl h4);have e:=fun(v:Value) (hv:v.oneCell' =true) (w:World) (μc:Mem) (hw:MOk μc w)=>HC t v hv 128 w μc hw;obtain⟨bg,-,-⟩:=SY bp;obtain⟨A,c,rfl,hcap,ao⟩:=hk.form;obtain⟨d0,av⟩:∃d,t.kids[0]? =some d:=⟨_,aA (by omega)⟩;obtain⟨d1,au⟩:∃d,t.kids[1]? =some d:=⟨_,aA (by omega)⟩;obtain⟨ad,x0,rfl,ai,b8,hx0⟩:=ao 0 d0 av;obtain⟨ad1,x1,e1,ab,b7,hx1⟩:=ao 1 d1 au;cases e1;have bh:=hq.kid (aB av);have a6:=hq.kid (aB au);generalize z:dM f t=l';unfold dM at z;dsimp only at z;rw[jE av,jE au]at z bg;have b9:=kQ d0;have bw:=oI 4 (bB d0) [];rw[bM]at bw;have bu:=qM f d0 (dT 4 (bB d0) []) (by omega);have bi:=fun w μc hw (hle:MLe μ μc)=>xZ d0 w μc x0 hw (hx0.mono hle) (by omega);refine cI Tryz.func136 rfl Tryz.ntmps136 (by simp) hμ hO ?_;refine oN 40 4 ?_;try repeat' (first|refine KO ?_|((with_reducible apply C3);exact rfl;exact EN;(exact fun w μc hw ap=>bi w μc hw ap.le);intro v2;(with_reducible apply fI 0);exact rfl;rintro A2 c2 rfl b0)|(refine KV (b:=by first|exact U1 0|exact U4 ai) (c:=?_))|refine KZ ?_|refine NB fun b=>?_)
 refine qN rfl ?_;intro μ2 bb az;have bx:=SsV.nH (xs:=bB d0) az rfl rfl;obtain⟨A3,c3,e3,hS,cb⟩:=bx;cases e3;refine cD (ι:=Nat×Value×Mem) (fun q=>q.1≤(bB d0).length∧MLe μ2 q.2.2) (fun q=>(bB d0).length-q.1) (fun q=>q.2.2) (fun q=>[(14,.int .i64 (q.1:Int)),(13,.int .i64 ((bB d0).length:Int)),(12,.slice A2 (bB d0).length c2),(1,.pointer (some ⟨b,0,none⟩)),(3,q.2.1)]) (fun q=>[.inl ⟨b,24,6,idx 0 (cO t (.slice (some ad) t.kids.length c))⟩,mF q.2.1 (dT 4 ((bB d0).take q.1) [])]) (0,.slice none 0 0,μ2) ⟨aN _,MLe.refl _⟩ (fun a w hs=>hs.sel PU (by rw[jW,CH];exact fH _)) ?_;rintro⟨j,v3,μ3⟩ ⟨hj,aa⟩;dsimp only at hj aa⊢;by_cases bq:j< (bB d0).length
 ·obtain⟨ad3,y,rfl,hy,bn⟩:=hS.get bq;have bm:=bn.mono aa;have ax:=yN (k:=4) (l:=[]) hy;have bd:=oI 4 ((bB d0).take j) [];rw[cM,bM]at bd;generalize dT 4 ((bB d0).take j) []=acc2 at ax bd⊢;try repeat' (first|refine KO ?_|(refine CF 64 ?_;(with_reducible apply rI 1);(iterate 3 exact rfl);exact EN;exact rfl;(exact GU acc2 _ y 4 _ (by omega));(intro v4 μ4 o);(dsimp only[fT]))|(refine KV (b:=by first|exact U1 j|exact U3 (bm.at 0 rfl)) (c:=?_))|refine KZ ?_)
  all_goals rw[←ax]
  all_goals exact cY (j+1,v4,μ4) ⟨by dsimp only;omega,aa.trans o⟩ (by dsimp only;omega) rfl PU (fH _)
 have br:j=(bB d0).length:=by omega
 subst br;rw[aK (aC _)];have g:=bb.trans aa;have ai:=ai.mono g;have ab:=ab.mono g;have an:=yB f d0 x0 v3 (dT 4 (bB d0) []) μ3 (hx0.mono g) bh (by omega) (by omega) (by omega);generalize dR f d0 (dT 4 (bB d0) [])=l1 at an z bu;try repeat' (first|((with_reducible show GC _ _ (Code.seq (Code.seq (Code.region 8 _ _) _) _) _ _ _ _);(apply dX))|refine KO ?_|(refine CF 161 ?_;(with_reducible apply rI 1);(iterate 3 exact rfl);exact EN;exact rfl;(exact an);(intro v4 μ4 o);(dsimp only[fT]);(have ab:=ab.mono o))|(refine KV (b:=by first|exact U1 0|exact U4 ai) (c:=?_))|refine KZ ?_)
 refine gcs ?_;have e:=e (.slice (some ad) t.kids.length c) rfl;by_cases ah:d1.op≠6∨jG t 128=true
 ·rw[if_pos ah]at z;have aq:=yB f d1 x1 v4 l1 μ4 (hx1.mono (g.trans o)) a6 (by omega) (by omega) (by omega);rw[z]at aq;have a7:=ab;by_cases h6:d1.op=6
  ·have aw:jG t 128=true:=ah.resolve_left (fun h=>h h6);rw[aw]at e;try repeat' (first|refine KO ?_|refine K2 63 (fun w μc hw ap=>e w μc hw) ?_|(refine CF 161 ?_;(with_reducible apply rI 1);(iterate 3 exact rfl);exact EN;exact rfl;(exact aq);(intro v5 μ5 ba);(dsimp only[fT]))|(refine KV (b:=by first|exact U1 1|exact U4 a7) (c:=?_))|refine KZ ?_)
   all_goals refine gO (L' :=[_]) (eB (.refl _) (.nil _)) ?_
   all_goals exact oJ ag rfl (cX rfl) rfl rfl
  ·try repeat' (first|refine KO ?_|(refine CF 161 ?_;(with_reducible apply rI 1);(iterate 3 exact rfl);exact EN;exact rfl;(exact aq);(intro v5 μ5 ba);(dsimp only[fT]))|(refine KV (b:=by first|exact U1 1|exact U4 a7) (c:=?_))|refine KZ ?_)
   all_goals refine gO (L' :=[_]) (eB (.refl _) (.nil _)) ?_
   all_goals exact oJ ag rfl (cX rfl) rfl rfl
 rw[if_neg ah]at z;have h6:d1.op=6:=by
  by_cases h:d1.op=6
  ·exact h
  ·exact absurd (.inl h) ah
 have aw:jG t 128=false:=by
  cases hb:jG t 128 with
  |true=>exact absurd (.inr hb) ah
  |false=>rfl
 rw[aw]at e;obtain⟨A5,c5,rfl,bt,ar⟩:=(hx1.mono (g.trans o)).form;have b1:=aS d1;have b2:=iG d1.kids;try repeat' (first|refine KO ?_|refine K2 63 (fun w μc hw ap=>e w μc hw) ?_|(refine KV (b:=by first|exact U1 1|exact U4 ab) (c:=?_))|refine KZ ?_)
 refine cD (ι:=Nat×Value×Mem) (fun q=>q.1≤d1.kids.length∧MLe μ4 q.2.2) (fun q=>d1.kids.length-q.1) (fun q=>q.2.2) (fun q=>[(50,.int .i64 (q.1:Int)),(49,.int .i64 (d1.kids.length:Int)),(48,.slice A5 d1.kids.length c5),(3,q.2.1)]) (fun q=>[mF q.2.1 ((d1.kids.take q.1).foldl (fun l k=>dR f k (bF [k] true l)) l1)]) (0,v4,μ4) ⟨aN _,MLe.refl _⟩ (fun a w hs=>hs.sel PU (eB (.refl _) (.nil _))) ?_;rintro⟨i,v,μi⟩ ⟨hi,hle⟩;dsimp only at hi hle⊢;by_cases hlt:i<d1.kids.length
 ·obtain⟨d,aj⟩:∃d,d1.kids[i]? =some d:=⟨_,aA hlt⟩;obtain⟨ad5,x,rfl,bk,b6,bo⟩:=ar i d aj;have bj:=bk.mono hle;have ak:=aB aj;have ca:d.size≤szs d1.kids:=T.eL (List.mem_map.2 ⟨d,ak,rfl⟩);have b5:=kK aj;have a1:=a6.kid ak;have bf:((d1.kids.take i).foldl (fun l k=>dR f k (bF [k] true l)) l1).length≤l1.length+2001*szs (d1.kids.take i):=by
   have h2:=oW (fun l k=>dR f k (bF [k] true l)) (fun k=>2001*k.size) (d1.kids.take i) l1 fun k hk a=>by
    have h7:k.size≤szs d1.kids:=T.eL (List.mem_map.2 ⟨k,bE hk,rfl⟩);have h8:=qM f k (bF [k] true a) (by omega);have h9:=jO [k] true a;have bz:szs [k]=k.size:=by simp[szs]
    omega
   have h3:∀l:List T,(l.map fun k=>2001*k.size).sum=2001*szs l:=fun l=>by
    induction l with
    |nil=>rfl
    |cons x r ih=>simp only[aL,dY,bK,ih];omega
   rw[h3]at h2;exact h2
  have ae:=lM (fun l k=>dR f k (bF [k] true l)) (l:=l1) aj;generalize (d1.kids.take i).foldl (fun l k=>dR f k (bF [k] true l)) l1=acc at bf ae⊢;have h9:=jO [d] true acc;have bz:szs [d]=d.size:=by simp[szs]
  have bc:=bo.mono hle;try repeat' (first|refine KO ?_|(refine CF 40 ?_;(refine pG rfl ?_);(intro μ7 af ay);(with_reducible apply rI 1);(iterate 3 exact rfl);exact EN;exact rfl;(exact xR [d] true _ _ acc _ (KR.pY (c:=1) (ps:=[(d,x)]) (yL ay (fun i v hv=>sT hv)) (aC _) (fun p hp=>by rw[aJ.1 hp];exact bc.mono af)) (fun k hk=>by rw[aJ.1 hk];exact a1.here.1) (by omega) (by omega));(intro v8 μ8 al);(dsimp only[fT]))|(refine CF 161 ?_;(with_reducible apply rI 1);(iterate 3 exact rfl);exact EN;exact rfl;(exact yB f d x _ (bF [d] true acc) _ (bc.mono (af.trans al)) a1 (by omega) (by omega) (by omega));(intro v9 μ9 a8);(dsimp only[fT]))|(refine KV (b:=by first|exact U1 i|exact U4 bj) (c:=?_))|refine KZ ?_|refine NB fun b=>?_)
  all_goals rw[←ae]
  all_goals exact cY (i+1,v9,μ9) ⟨by dsimp only;omega,((hle.trans af).trans al).trans a8⟩ (by dsimp only;omega) rfl PU (eB (.refl _) (.nil _))
 ·have bs:i=d1.kids.length:=by omega
  subst bs;rw[aK (aC _)];try repeat' (refine KZ ?_)
  all_goals exact oJ ag rfl (cX rfl) rfl z
end
section
open Go.RowKit Go.Vcg Go.MapKept
theorem FR'.len{q:FW}{s:FS}(h:FR' q s):q.cs.length=s.scopes.length:=by rw[←h.sc,kV]
theorem aSg(cs:List (Sc×Value)):(cs.flatMap fF).length=cs.length*5:=nP (enc:=fF) (s:=5) (fun _=>rfl) cs
attribute [local irreducible] jY dT eM bF dR dM anI jK iB G GC GQ GA eV Calls IntKind.wrap Int.decLt Int.decLe
theorem BN(kind at' :Int)(w0:Wh)(l:List Bd)(lv:Value)(s:FS)(μ:Mem)(xb cb hb db:Nat)(hs:s.scopes.length≤8000):
 aS1 39 [.pointer (some ⟨xb,0,none⟩),.int .i64 kind,.int .i64 at',WV w0,lv] xb cb hb db lv l s (kL kind at' w0 l s) μ (fun v=>v=WV (nG w0 s)):=by
 intro w q hμ c f;have a:=dW f.diff;have hlen:=c.len;have h:=aSg q.cs;have e9:((q.cs.length+1:Nat):Int)-1=(s.scopes.length:Int):=by omega
 refine cI Tryz.func39 rfl Tryz.ntmps39 (by simp) hμ f ?_;refine lT (congrArg _ (mK xb cb hb db s q)) ?_;refine gT 0 rfl ?_;rintro Al cl rfl e;try repeat' (first|refine KZ ?_|refine NB fun b=>?_)
 refine aZ 18 _ (by kernel_rfl) rfl (cP (aD aT)) ?_;all_goals(refine DD 0 ?_;refine DD 1 ?_;refine DD 2 ?_;refine DD 3 ?_;refine DD 5 ?_;refine DD 6 ?_;refine DD 7 ?_;refine DD 8 ?_;refine DD 9 ?_;refine DD 10 ?_;refine DD 11 ?_;refine DD 12 ?_)
 refine iZ 4 13 (by kernel_rfl) ?dr17_4 ?dr17_13
 case' dr17_4=>
  (((with_reducible apply jU);(iterate 4 exact rfl);(((with_reducible apply yZ);exact rfl;(repeat first|with_reducible exact fW|with_reducible apply pQ);exact rfl))))
  all_goals(refine D3 13 ?_;refine D5 ?_;refine NB fun b=>?_;refine D9 ?_)
  all_goals(refine D3 14 ?_;refine D5 ?_;(((with_reducible apply qA);(iterate 3 exact rfl);(repeat first|with_reducible exact fO|with_reducible apply gD);(iterate 6 exact rfl);(((with_reducible apply kB);exact rfl;(repeat with_reducible exact fW);exact rfl));exact rfl;exact gI (by(repeat first|with_reducible exact fZ|((with_reducible apply eW);exact rfl)));omega;omega;intro v;refine mP 5 rfl (by omega) fun g cap hv hcap=>?_;(subst hv)));refine D9 ?_)
  all_goals(refine DD 15 ?_;refine DD 16 ?_;refine D3 17 ?_;refine D5 ?_;refine Y0 ?_;refine D9 ?_;refine D8 ?_)
 case' dr17_13=>
  (refine D5 ?_;refine NB fun b=>?_;refine D9 ?_)
  all_goals(refine D3 4 ?_;(with_reducible apply jU);(iterate 4 exact rfl);(((with_reducible apply yZ);exact rfl;(repeat first|with_reducible exact fW|with_reducible apply pQ);exact rfl)))
  all_goals(refine D3 14 ?_;refine D5 ?_;(((with_reducible apply qA);(iterate 3 exact rfl);(repeat first|with_reducible exact fO|with_reducible apply gD);(iterate 6 exact rfl);(((with_reducible apply kB);exact rfl;(repeat with_reducible exact fW);exact rfl));exact rfl;exact gI (by(repeat first|with_reducible exact fZ|((with_reducible apply eW);exact rfl)));omega;omega;intro v;refine mP 5 rfl (by omega) fun g cap hv hcap=>?_;(subst hv)));refine D9 ?_)
  all_goals(refine DD 15 ?_;refine DD 16 ?_;refine D3 17 ?_;refine D5 ?_;refine Y0 ?_;refine D9 ?_;refine D8 ?_)
 try repeat' (refine KZ ?_)
 all_goals rw[e9]
 all_goals refine nD ((((dZ _ _).cons _).cons _).cons _) ?_
 all_goals refine gJ (n' :=(q.cs++[((⟨w0.scope,w0.fn,kind,at',l⟩:Sc),Value.slice Al l.length cl)]).length) (xs' :=(q.cs++[((⟨w0.scope,w0.fn,kind,at',l⟩:Sc),Value.slice Al l.length cl)]).flatMap fF) 4 rfl (by simp) (by simp) ?_
 all_goals dsimp only[fT,aU]
 all_goals refine aIo (s:=kL kind at' w0 l s) (y:=.inl ⟨_,85,3,[(0,.int .i64 (s.scopes.length:Int)),(1,.int .i64 w0.fn),(2,.bool w0.decl)]⟩) { q with sv:=.slice (some ⟨g,0,none⟩) (q.cs.length+1) cap,cs:=q.cs++[((⟨w0.scope,w0.fn,kind,at',l⟩:Sc),Value.slice Al l.length cl)] } a rfl (by rw[mK];dsimp only;rw[GB,GH];exact(by repeat first|exact bY _ (bY _ (fH _))|(refine eB ?_ ?_;focus(refine kZ.cells ?_;repeat first|exact gC|refine eS rfl ?_))|(refine tB ?_ ?_;focus(refine kZ.cells ?_;repeat first|exact gC|refine eS rfl ?_)))) (RG 0 rfl rfl rfl rfl rfl) rfl ⟨?_,c.ca,c.hd,c.dn⟩ rfl
 all_goals show scs (q.cs++[_])=s.scopes++[_]
 all_goals unfold scs
 all_goals rw[bJ,←c.sc]
 all_goals rfl
theorem BH(kind at' :Int)(w0:Wh)(l:List Bd)(lv:Value)(s:FS)(μ:Mem)(xb cb hb db:Nat)(hs:s.scopes.length≤8000):
 aS1 84 [.pointer (some ⟨xb,0,none⟩),.int .i64 kind,.int .i64 at',WV w0,lv] xb cb hb db lv l s (iJ kind at' w0 l s) μ (fun v=>v=WV (eF w0 l s)):=by
 intro w q hμ c h;have a:=dW h.diff;have e:=BN kind at' w0 l;refine cI Tryz.func84 rfl Tryz.ntmps84 (by simp) hμ h ?_;refine gT 0 rfl ?_;rintro Al cl rfl f;unfold iJ eF;by_cases h0:l.length=0
 ·rw[if_pos h0,if_pos h0];try repeat' (first|refine KZ ?_|refine NB fun b=>?_)
  all_goals exact xT (s:=s) 3 q a rfl (RG 0 rfl rfl rfl rfl rfl) rfl rfl c rfl
 ·rw[if_neg h0,if_neg h0];try repeat' (first|refine KO ?_|(refine CF 39 ?_;(with_reducible apply yU 2);(iterate 3 exact rfl);exact EN;exact rfl;exact c;exact e _ s _ xb cb hb db hs;rintro v1 μ1 i1 g c rfl;dsimp only[aU,aY])|refine KZ ?_|refine NB fun b=>?_)
  all_goals exact xT (s:=kL kind at' w0 l s) 2 i1 a rfl (RG 0 rfl rfl rfl rfl rfl) rfl rfl c rfl
end
end Go.Proofs.YtlllalmkkaolfaaGreatDoor
