/- Package early: clash, with, name, walked. -/
import Derived.Test.YtlllalmkkaolfaaGreatDoorUag
set_option maxRecDepth 20000
set_option maxHeartbeats 2000000
namespace Go.Proofs.YtlllalmkkaolfaaGreatDoor
open Go.RowKit Go.Vcg
theorem VA(l:List Int)(r:Int):decide (r∈l)=l.contains r:=by rw[List.contains_eq_mem]
attribute [local irreducible] anI nW mkD G GC GQ GA eV Calls IntKind.wrap Int.decLt Int.decLe
theorem YL(f:FuncId)(cap:List Value)(q1:Int→Bool)(l:List Int)(A:Option Addr)(n c:Nat)(w:World)(μ:Mem)(hμ:MOk μ w)(y:jF Tryz.prog f=true)(z:Sl aCf 1 μ A n l)(hn:n≤1000000)(x:∀(o:Int) (w:World) (μ' :Mem),MOk μ' w→MLe μ μ' →Calls Tryz.prog f ([Value.int .i64 o]++cap).toArray w fun e w' =>e=.returned (.bool (q1 o))∧Below w.heap.size w w'):
 bC 179 #[.slice A n c,.func (.func f) #[] cap.toArray] w (.int .i64 (firstT (l.map q1))):=by
 refine aF Tryz.func179 rfl Tryz.ntmps179 (by simp) hμ ?_;have u:l.length=n:=z.1;have aa:(l.map q1).length=n:=by rw[aO];exact u
 try repeat' (refine KZ ?_)
 refine cD (ι:=Nat) (fun k=>k≤n∧∀(j:Nat) (q:Bool),j<k→(l.map q1)[j]? =some q→q=false) (fun k=>n-k) (fun _=>μ) (fun k=>[(8,.int .i64 k),(7,.int .i64 n),(6,.slice A n c),(0,.slice A n c),(1,.func (.func f) #[] cap.toArray)]) (fun _=>[]) 0 ⟨by omega,fun j _ h=>absurd h (by omega)⟩ (fun a w hs=>J5 hs) ?_;rintro k ⟨hk,hf⟩;by_cases hlt:k<n
 ·obtain⟨ad,o,rfl,ho,hm⟩:=z.get hlt;have i:(l.map q1)[k]? =some (q1 o):=by rw[aX,ho];rfl
  have hc:=fun w μc hw (hle:MLe μ μc)=>x o w μc hw hle;generalize q1 o=q at i hc;have r:q=false→∀(j:Nat) (q:Bool),j<k+1→(l.map q1)[j]? =some q→q=false:=fun h j p v t=>by
   rcases dL j k with h1|h1
   ·exact hf j p h1 t
   ·obtain rfl:j=k:=by omega
    rw[i]at t;cases t;exact h
  cases q
  ·have hb:=r rfl;try repeat' (first|refine KO ?_|((with_reducible apply C1);exact rfl;exact EN;exact fun w μc hw g=>hc w μc hw g.le)|(refine KV (b:=by first|exact U1 k|exact U3 (hm.at 0 rfl)) (c:=?_))|refine KZ ?_)
   all_goals exact J2 (k+1) ⟨by omega,hb⟩ (by omega)
  ·try repeat' (first|refine KO ?_|((with_reducible apply C1);exact rfl;exact EN;exact fun w μc hw g=>hc w μc hw g.le)|(refine KV (b:=by first|exact U1 k|exact U3 (hm.at 0 rfl)) (c:=?_)))
   all_goals refine aQ rfl rfl ?_
   all_goals rw[uJ i hf]
 ·try repeat' (refine KZ ?_)
  refine aQ rfl rfl ?_;rw[qX (fun j q v=>hf j q (by have:=(List.getElem?_eq_some_iff.1 v).1;omega) v)]
theorem OJ(f:FuncId)(cap:List Value)(q1:Int→Bool)(l:List Int)(v:Value)(w:World)(μ:Mem)(hμ:MOk μ w)(b:jF Tryz.prog f=true)(hv:IsV μ v l)(hn:l.length≤1000000)(g:∀(o:Int) (w:World) (μ' :Mem),MOk μ' w→MLe μ μ' →Calls Tryz.prog f ([Value.int .i64 o]++cap).toArray w fun e w' =>e=.returned (.bool (q1 o))∧Below w.heap.size w w'):
 bC 174 #[v,.func (.func f) #[] cap.toArray] w (.bool (l.any q1)):=by
 obtain⟨A,c,rfl,i,-⟩:=hv;refine aF Tryz.func174 rfl Tryz.ntmps174 (by simp) hμ ?_;have h:decide (0≤firstT (l.map q1))=l.any q1:=by rw[sJ,jT];rfl
 rw[←h];try repeat' (first|refine KO ?_|((with_reducible apply C1);exact rfl;exact EN;exact fun w μc hw a=>YL f cap q1 l A l.length c w μc hw b (i.mono a.le) hn (fun o w μ' h2 h3=>g o w μ' h2 (a.le.trans h3))))
 exact aQ rfl rfl rfl
theorem ZV(r:Int)(d:ED)(dv:Value)(bc:Nat)(w:World)(μ:Mem)(hμ:MOk μ w)(hd:IsV μ dv d.ins)(hl:d.ins.length≤100000)(hm:gF μ ⟨bc,0,none⟩ (vF (d,dv))):
 Calls Tryz.prog 175 ([Value.int .i64 r]++[Value.pointer (some ⟨bc,0,none⟩)]).toArray w fun e w' =>e=.returned (.bool (d.ins.contains r))∧Below w.heap.size w w' :=by
 refine aF Tryz.func175 rfl Tryz.ntmps175 (by simp) hμ ?_;have ho:=hd.one;rw[←VA];obtain⟨A,c,rfl,h,-⟩:=hd;have f:gF μ ⟨bc,0,none⟩ [.bool d.lex,.slice A d.ins.length c,.int .i64 d.par,.bool d.twice]:=hm;have g:qD μ ⟨bc,0+1,none⟩ (.slice A d.ins.length c):=f 1 _ rfl;try repeat' (first|refine KO ?_|((with_reducible apply C1);exact rfl;exact EN;exact fun w μc hw a=>DC r d.ins A d.ins.length c w μc hw (h.mono a.le) hl)|(refine KV (b:=by((with_reducible apply lF);exact rfl;exact rfl;exact g)) (c:=?_)))
 exact aQ rfl rfl rfl
theorem LS{b t sz:Nat}{cs:bS}{vs:List Value}{μ:Mem}(h:Bk.sh (.inl ⟨b,t,sz,cs⟩) μ)(hv:∀j v,vs[j]? =some v→lk cs j=some v):gF μ ⟨b,0,none⟩ vs:=fun j v a=>by
 obtain⟨arr,h1,_,h3⟩:=h;have e:Addr.add ⟨b,0,none⟩ j=⟨b,j,none⟩:=by cases j<;>simp[Addr.add]
 rw[e];exact⟨arr,t,(0,0),h1,rfl,h3 j v (hv j v a)⟩
theorem sT{vs:List Value}{j:Nat}{v:Value}(h:vs[j]? =some v):lk (idx 0 vs) j=some v:=by have h2:=QW vs 0 j v h;rwa[bG]at h2
theorem aCq(a d:ED)(av dv:Value)(w:World)(μ:Mem)(hμ:MOk μ w)(f:IsV μ av a.ins)(hd:IsV μ dv d.ins)(h:a.ins.length≤100000)(hl:d.ins.length≤100000):
 bC 165 #[.agg (vF (a,av)).toArray,.agg (vF (d,dv)).toArray] w (.bool (nM a d)):=by
 have oa:=f.one;have od:=hd.one;refine aF Tryz.func165 rfl Tryz.ntmps165 (by simp) hμ ?_;have e:=fun(b:Nat) (w:World) (μc:Mem) (hw:MOk μc w) (hle:MLe μ μc) (hc:gF μc ⟨b,0,none⟩ (vF (d,dv)))=>OJ 175 [.pointer (some ⟨b,0,none⟩)] (fun r=>d.ins.contains r) a.ins av w μc hw (by kernel_rfl) (f.mono hle) (by omega) (fun o w μ' h2 h3=>ZV o d dv b w μ' h2 ((hd.mono hle).mono h3) hl (hc.mono h3));unfold nM;generalize (a.ins.any fun r=>d.ins.contains r)=q at e⊢;try repeat' (first|refine KO ?_|refine K3 174 (fun w μc hw c=>e _ w μc hw c.le (LS c.hd (fun j v g=>sT g))) ?_|refine KZ ?_|refine NB fun b=>?_|(refine KB ?_ ?_<;>intro i))
 all_goals refine aQ rfl rfl ?_
 all_goals simp_all
theorem wO(xb mb:Nat)(p:EP)(pv:Value)(s:ES)(μ:Mem)(j:PV μ p pv)(hb:p.regs.length≤100000)(hs:s.regs≤1000000):
 CEr 100 [.pointer (some ⟨xb,0,none⟩),pv] xb mb s (eX s) μ (fun μ' v=>PV μ' (iE p s) v):=by
 intro w fs hμ h i;have f:=dW i.diff;obtain⟨r,lb,lo,mi,rfl,hr,h2,h3,h4⟩:=j;have o1:=hr.one;have o2:=h2.one;have o3:=h3.one;have o4:=h4.one;have e1:=aKm p.regs;have e2:=aIz p.regs;refine cI Tryz.func100 rfl Tryz.ntmps100 (by simp) hμ i ?_;refine lT (aE1 xb mb s fs) ?_;try repeat' (first|refine KZ ?_|refine NB fun b=>?_)
 refine aZ 13 _ (by kernel_rfl) rfl (cP (cP (aD aT))) ?_;all_goals(refine DD 0 ?_;refine DD 1 ?_;refine DD 4 ?_;refine DD 5 ?_;refine DD 6 ?_;refine DD 7 ?_)
 refine iZ 2 8 (by kernel_rfl) ?dr1_2 ?dr1_8
 case' dr1_2=>
  (((with_reducible apply jU);(iterate 4 exact rfl);(((with_reducible apply yZ);exact rfl;(repeat first|with_reducible exact fW|with_reducible apply pQ);exact rfl))))
  refine iZ 3 8 (by kernel_rfl) ?dr2_3 ?dr2_8
  case' dr2_3=>
   (refine D5 ?_;(with_reducible apply F3 140);exact rfl;exact EN;exact fun w μc hw e=>VB w μc hw p.regs r (hr.mono e.le) (by omega);intro vr;refine D9 ?_)
   all_goals(refine D3 8 ?_;refine D5 ?_;refine NB fun b=>?_;refine D9 ?_)
   all_goals(refine D3 9 ?_;refine D5 ?_;refine AI (k:=fun g cap hcap=>?_);refine D9 ?_)
   all_goals(refine DD 10 ?_;refine DD 11 ?_;refine D3 12 ?_;refine D5 ?_;refine Y0 ?_;refine D9 ?_;refine D8 ?_)
  case' dr2_8=>
   (refine D5 ?_;refine NB fun b=>?_;refine D9 ?_)
   all_goals(refine D3 3 ?_;refine D5 ?_;(with_reducible apply F3 140);exact rfl;exact EN;exact fun w μc hw e=>VB w μc hw p.regs r (hr.mono e.le) (by omega);intro vr;refine D9 ?_)
   all_goals(refine D3 9 ?_;refine D5 ?_;refine AI (k:=fun g cap hcap=>?_);refine D9 ?_)
   all_goals(refine DD 10 ?_;refine DD 11 ?_;refine D3 12 ?_;refine D5 ?_;refine Y0 ?_;refine D9 ?_;refine D8 ?_)
 case' dr1_8=>
  (refine D5 ?_;refine NB fun b=>?_;refine D9 ?_)
  all_goals(refine D3 2 ?_;(with_reducible apply jU);(iterate 4 exact rfl);(((with_reducible apply yZ);exact rfl;(repeat first|with_reducible exact fW|with_reducible apply pQ);exact rfl)))
  all_goals(refine D3 3 ?_;refine D5 ?_;(with_reducible apply F3 140);exact rfl;exact EN;exact fun w μc hw e=>VB w μc hw p.regs r (hr.mono e.le) (by omega);intro vr;refine D9 ?_)
  all_goals(refine D3 9 ?_;refine D5 ?_;refine AI (k:=fun g cap hcap=>?_);refine D9 ?_)
  all_goals(refine DD 10 ?_;refine DD 11 ?_;refine D3 12 ?_;refine D5 ?_;refine Y0 ?_;refine D9 ?_;refine D8 ?_)
 all_goals try repeat' (refine KZ ?_)
 all_goals first
  |(refine DT rfl ?_;intro μ4 a c;have hv:=IsV.nH (xs:=p.regs++[((s.regs+1:Nat):Int)]) c (by simp) (by rw[cZ];rfl))
  |(refine DS rfl ?_;intro μ4 a c;have hv:=IsV.nH (xs:=p.regs++[((s.regs+1:Nat):Int)]) c (by simp) (by rw[cZ];rfl))
 all_goals refine gO (L' :=.inl ⟨_,101,12,idx 0 (nL (iE p s) (.slice (some ⟨g,0,none⟩) (p.regs.length+1) cap) lb lo mi)⟩::EB xb mb (eX s) fs) (by unfold EB;exact eB (.cells PU) (tB (.cells PU) (tB (.refl _) (bY _ (bY _ (gB _)))))) ?_
 all_goals exact TM 1 fs f rfl (RG 0 rfl rfl rfl rfl rfl) rfl rfl (fun μ' hle=>⟨⟨h.1,(h.mono (a.trans hle)).2⟩,_,lb,lo,mi,rfl,hv.mono hle,h2.mono (a.trans hle),h3.mono (a.trans hle),h4.mono (a.trans hle)⟩)
end Go.Proofs.YtlllalmkkaolfaaGreatDoor
namespace Go.Vcg
open Go.RowKit
section
variable{P:Program}{μ:Mem}{l:bS}{L:List Bk}{ty:TypeId}{pos:String}{af:Array Edge}{gd:Option (Nat×Bool)}{ds:Option Nat}
theorem IG{p q r:Operand}{t:TypeId}{b b' :ByteArray}{j i:Int}(k m:Nat)(he:b.extract k m=b')(ht:P.underlying t=some .string)(c:ev l p=some (.string b))(hq:ev l q=some (.int .i64 j))(e:j=(k:Int))(a:ev l r=some (.int .i64 i))(hi:i=(m:Int))(hk:k≤m)(hm:m≤b.size):
 Val P μ l L ⟨ds,.slice t p (some q) (some r) none,ty,pos,af,gd⟩ (.string b'):=by
 rw[←he];exact aAg k m ht c hq e a hi hk hm
end
end Go.Vcg
namespace Go.Proofs.YtlllalmkkaolfaaGreatDoor
open Go.RowKit Go.Vcg Ou
theorem TU(l:List UInt8):(ofB l).size=l.length:=by simp[ofB,ByteArray.size]
theorem SK(l:List UInt8):bl (ofB l)=l:=by simp[bl,ofB]
theorem aLv{s:ByteArray}{i:Nat}(h:i<s.size):∃b,(bl s)[i]? =some b∧bAt s i=b.toNat:=by
 have:i< (bl s).length:=by rw[EJ];exact h
 exact⟨(bl s)[i],aA this,aO8 (aA this)⟩
theorem xB(x:Int)(c:UInt8)(b:Bool)(a:x=c.toNat)(hb:Iq.nU c=b)(w:World)(μ:Mem)(hμ:MOk μ w):bC 176 #[.int .u8 x] w (.bool b):=by
 subst hb;exact XY x c a w μ hμ
theorem uR(c:UInt8):Iq.rF c=true↔Iq.nU c=true∨(48≤(c.toNat:Int)∧(c.toNat:Int)≤57):=by
 unfold Iq.rF;rw[Bool.or_eq_true,aM,decide_eq_true_eq,decide_eq_true_eq];exact or_congr Iff.rfl (by omega)
theorem QU{l:List UInt8}{j:Nat}{c:UInt8}(a:j≤(mS l).length)(h0:j=0→Iq.nU c=true)(hc:l[j]? =some c)(h:Iq.rF c=true)(hs:mS l≠[]∨j=0):j+1≤(mS l).length:=by
 cases l with
 |nil=>simp at hc
 | cons x r=>
   unfold mS at a hs⊢;dsimp only at a hs⊢;cases j with
   | zero=>
     simp at hc;subst hc;rw[if_pos (h0 rfl)];simp
   | succ j=>
     by_cases b:Iq.nU x=true
     ·rw[if_pos b]at a⊢;rw[bW]at hc;simp only[bH]at a⊢;rcases dL j (r.takeWhile Iq.rF).length with h1|h1
      ·omega
      ·have e:j=(r.takeWhile Iq.rF).length:=by omega
       rw[e]at hc;have:=aH4 _ _ hc;rw[h]at this;cases this
     ·rw[if_neg b]at hs;rcases hs with hs|hs
      ·exact absurd rfl hs
      ·omega
theorem aFx{l:List UInt8}{j:Nat}(a:j≤(mS l).length)(h:l.length≤j∨∃c,l[j]? =some c∧Iq.rF c=false):(mS l).length=j:=by
 cases l with
 |nil=>simp[mS]at a⊢;omega
 | cons x r=>
   unfold mS at a⊢;dsimp only at a⊢;by_cases b:Iq.nU x=true
   ·rw [if_pos b]at a⊢;simp only[bH]at a⊢;have hle:=(lY (l:=r) Iq.rF).length_le;rcases h with h|⟨c,hc,h⟩
    ·simp at h;omega
    ·cases j with
     | zero=>
       simp at hc;subst hc;have:Iq.rF x=true:=(uR x).2 (.inl b);rw[this]at h;cases h
     | succ j=>
       rw[bW]at hc;rcases dL j (r.takeWhile Iq.rF).length with h1|h1
       ·obtain⟨d,h2,h3⟩:=aH3 _ _ h1;rw[h2]at hc;cases hc;rw[h3]at h;cases h
       ·omega
   ·rw[if_neg b]at a⊢;simp at a⊢;omega
theorem aI6{l:List UInt8}:(ofB l).extract 0 (mS l).length=ofB (mS l):=by
 apply aCw;rw[aCx,SK,SK,dK,pB];cases l with
 |nil=>rfl
 | cons x r=>
   unfold mS;dsimp only;by_cases a:Iq.nU x=true
   ·rw[if_pos a,bH,List.take_succ_cons,←List.prefix_iff_eq_take.1 (lY _)]
   ·rw[if_neg a];rfl
theorem aNb(l:List UInt8):(mS l).length≤l.length:=by
 cases l with
 |nil=>simp[mS]
 | cons x r=>
   unfold mS;dsimp only;have hle:=(lY (l:=r) Iq.rF).length_le;split<;>simp<;>omega
attribute [local irreducible] G GC GQ GA eV Calls IntKind.wrap Int.decLt Int.decLe
theorem aBo(l:List UInt8)(hl:l.length≤1000000)(w:World)(μ:Mem)(hμ:MOk μ w):bC 166 #[.string (ofB l),.int .i64 0] w (.tuple #[.string (ofB (mS l)),.int .i64 (mS l).length]):=by
 refine aF Tryz.func166 rfl Tryz.ntmps166 (by simp) hμ ?_;have ab:=TU l;by_cases h0:l=[]
 ·subst h0;have hz:(ofB ([]:List UInt8)).size=0:=rfl;try repeat' (refine KZ ?_)
  all_goals first|skip
  all_goals exact wG rfl (cX rfl) (cX rfl) rfl rfl
 obtain⟨c,r,rfl⟩:∃c r,l=c::r:=by
  cases l with
  |nil=>exact absurd rfl h0
  |cons c r=>exact⟨c,r,rfl⟩
 have aa:0< (c::r).length:=by simp
 obtain⟨c0,e,x⟩:=aLv (s:=ofB (c::r)) (i:=0) (by omega);rw[SK]at e;cases e;cases hc:Iq.nU c with
 | false=>
   have hn:mS (c::r)=[]:=by unfold mS;simp[hc]
   rw[hn];try repeat' (first|refine KO ?_|refine K2 176 (fun w μc hw q=>xB _ c false (by omega) hc w μc hw) ?_|(refine KV (b:=by exact U2 0) (c:=?_))|refine KZ ?_)
   all_goals first|skip
   all_goals exact wG rfl (cX rfl) (cX rfl) rfl rfl
 | true =>
   have hle:=aNb (c::r);have p:=aI6 (l:=c::r);have hne:1≤(mS (c::r)).length:=QU (aN _) (fun _=>hc) rfl ((uR c).2 (.inl hc)) (.inr rfl);have g:=fun(j:Nat) (d:UInt8) (t:j≤(mS (c::r)).length) (h1:j=0→Iq.nU d=true) (h2:(c::r)[j]? =some d) (h3:Iq.rF d=true)=>QU t h1 h2 h3 (.inl (by intro h;rw[h]at hne;simp at hne));have f:=fun(j:Nat)=>aFx (l:=c::r) (j:=j);have z:(c::r)[0]? =some c:=rfl;generalize mS (c::r)=u at hle p hne g f⊢;generalize ad:c::r=l at*;try repeat' (first|refine KO ?_|refine K2 176 (fun w μc hw q=>xB _ c true (by omega) hc w μc hw) ?_|(refine KV (b:=by exact U2 0) (c:=?_))|refine KZ ?_)
   all_goals first|skip
   all_goals refine cD (ι:=Nat) (fun j=>1≤j∧j≤u.length) (fun j=>l.length-j) (fun _=>μ) (fun j=>[(6,.int .i64 (j:Int)),(1,.int .i64 0),(0,.string (ofB l)),(4,.string ⟨#[]⟩),(5,.int .i64 0)]) (fun _=>[]) 1 ⟨by omega,by omega⟩ (fun a w hs=>hs.sel PU PS) ?_
   intro j ⟨ae,t⟩;clear x;by_cases hlt:j<l.length
   ·obtain ⟨d, e, x⟩:=aLv (s:=ofB l) (i:=j) (by omega);rw[SK]at e;have y:j=0→d=c:=by intro h;rw[h,z]at e;exact(eC e).symm
    cases o:Iq.nU d with
    | true=>
      have hw:=g j d t (fun _=>o) e ((uR d).2 (.inl o));try repeat' (first|refine KO ?_|refine K2 176 (fun w μc hw q=>xB _ d true (by omega) o w μc hw) ?_|(refine KV (b:=by exact U2 j) (c:=?_))|refine KZ ?_)
      all_goals first|skip
      all_goals refine cY (j+1) ⟨by omega,hw⟩ (by omega) rfl PU PS
    | false=>
      by_cases v:48≤(d.toNat:Int)∧(d.toNat:Int)≤57
      ·have hw:=g j d t (fun h=>by rw[y h];exact hc) e ((uR d).2 (.inr v));try repeat' (first|refine KO ?_|refine K2 176 (fun w μc hw q=>xB _ d false (by omega) o w μc hw) ?_|(refine KV (b:=by exact U2 j) (c:=?_))|refine KZ ?_)
       all_goals first|skip
       all_goals refine cY (j+1) ⟨by omega,hw⟩ (by omega) rfl PU PS
      ·have hw := f j t (.inr ⟨d,e,by
        cases hp:Iq.rF d with
        |false=>rfl
        | true => rcases(uR d).1 hp with h|h
                  ·rw[o]at h;cases h
                  ·exact absurd h v⟩)
       subst hw;try repeat' (first|refine KO ?_|refine K2 176 (fun w μc hw q=>xB _ d false (by omega) o w μc hw) ?_|(refine KV (b:=by first|exact U2 u.length|((with_reducible apply IG 0 u.length p);(iterate 3 exact rfl);rfl;exact rfl;rfl;omega;(rw[TU];omega))) (c:=?_))|refine KZ ?_|(refine KB ?_ ?_<;>intro hp))
       all_goals first|skip
       all_goals exact wG rfl (cX rfl) (cX rfl) rfl rfl
   ·have hw:=f j t (.inl (by omega));subst hw;try repeat' (first|refine KO ?_|(refine KV (b:=by((with_reducible apply IG 0 u.length p);(iterate 3 exact rfl);rfl;exact rfl;rfl;omega;(rw[TU];omega))) (c:=?_))|refine KZ ?_)
    all_goals first|skip
    all_goals exact wG rfl (cX rfl) (cX rfl) rfl rfl
end Go.Proofs.YtlllalmkkaolfaaGreatDoor
namespace Go.Vcg
open Go.RowKit Go.Proofs.YtlllalmkkaolfaaGreatDoor Go.Proofs.YtlllalmkkaolfaaGreatDoor.Ou
section
variable{P:Program}{μ:Mem}{l:bS}{L:List Bk}{ty:TypeId}{pos:String}{af:Array Edge}{gd:Option (Nat×Bool)}{ds:Option Nat}
theorem aHw{p q:Operand}{t t2:TypeId}{a b:List UInt8}(h0:ev l p=some (.string (ofB a)))(h1:ev l q=some (.string (ofB b)))(hb:a.length+b.length≤9000000000000000000):
 Val P μ l L ⟨ds,.binOp .add t p q t2,ty,pos,af,gd⟩ (.string (ofB (a++b))):=by
 have h:=aAh (P:=P) (μ:=μ) (L:=L) (ds:=ds) (ty:=ty) (pos:=pos) (af:=af) (gd:=gd) (t:=t) (t2:=t2) h0 h1 (by
  have e:∀l:List UInt8,(ofB l).size=l.length:=fun l=>by simp[ofB,ByteArray.size]
  rw[e,e];omega)
 have e:ofB a++ofB b=ofB (a++b):=by
  apply aO2;rw[aO1];show((ofB a)++(ofB b)).data.toList=_
  rw[ByteArray.data_append];simp[ofB]
 rw[←e];exact h
end
end Go.Vcg
namespace Go.Proofs.YtlllalmkkaolfaaGreatDoor
section
open Go.RowKit Go.Vcg Go.Shelf Ou
def vN(μ:Mem):Prop:=∃m:Int,qD μ ⟨2,0,none⟩ (.int .i64 m)
theorem vN.mono{μ μ' :Mem}(h:vN μ)(hle:MLe μ μ'):vN μ' :=by
 obtain⟨m,hm⟩:=h;exact⟨m,hm.mono hle⟩
theorem XX(s t:List UInt8)(hs:s.length≤3000000)(w:World)(μ:Mem)(hμ:MOk μ w)(hm:vN μ):bC 177 #[.string (ofB s),.string (ofB t)] w (.int .i64 (Lib.index s t)):=by
 obtain⟨m,a,t',f,h1,h2,h3⟩:=hm;have hc:w.cell? ⟨2,0,none⟩=some (.int .i64 m):=by have hw:=hμ _ _ h1;simp only at hw;simp[World.cell?,hw,h3]
 refine(Any.strings_Index Tryz.lays143 (ofB s) (ofB t) m w (show s.toArray.size<_ by simp;omega) hc).mono fun e w' he=>?_;obtain⟨rfl,rfl⟩:=he;refine⟨?_,rfl,rfl,rfl,aC _,fun _ _=>rfl⟩;simp[ofB]
def VJ:List UInt8:=[32,98,114,101,97,107,32,99,97,115,101,32,99,97,116,99,104,32,99,108,97,115,115,32,99,111,110,115,116,32,99,111,110,116,105,110,117,101,32,100,101,98,117,103,103,101,114,32,100,101,102,97,117,108,116,32,100,101,108,101,116,101,32,100,111,32,101,108,115,101,32,101,110,117,109,32,101,120,112,111,114,116,32,101,120,116,101,110,100,115,32,102,97,108,115,101,32,102,105,110,97,108,108,121,32,102,111,114,32,102,117,110,99,116,105,111,110,32,105,102,32,105,109,112,111,114,116,32,105,110,32,105,110,115,116,97,110,99,101,111,102,32,110,101,119,32,110,117,108,108,32,114,101,116,117,114,110,32,115,117,112,101,114,32,115,119,105,116,99,104,32,116,104,105,115,32,116,104,114,111,119,32,116,114,117,101,32,116,114,121,32,116,121,112,101,111,102,32,118,97,114,32,118,111,105,100,32,119,104,105,108,101,32,119,105,116,104,32]
def TC:List UInt8:=[32,105,109,112,108,101,109,101,110,116,115,32,105,110,116,101,114,102,97,99,101,32,108,101,116,32,112,97,99,107,97,103,101,32,112,114,105,118,97,116,101,32,112,114,111,116,101,99,116,101,100,32,112,117,98,108,105,99,32,115,116,97,116,105,99,32,121,105,101,108,100,32]
def wdL(l:List UInt8):Int:=if mS l=[]∨mS l≠l then 0 else if Lib.contains VJ ([32]++l++[32])then 1 else if Lib.contains TC ([32]++l++[32])then 2 else 0
def wdF(s:ByteArray):Int:=wdL (bl s)
attribute [local irreducible] G GC GQ GA eV Calls IntKind.wrap Int.decLt Int.decLe
theorem zW(s t:List UInt8)(hs:s.length≤3000000)(w:World)(μ:Mem)(hμ:MOk μ w)(hm:vN μ):bC 167 #[.string (ofB s),.string (ofB t)] w (.bool (Lib.contains s t)):=by
 refine aF Tryz.func167 rfl Tryz.ntmps167 (by simp) hμ ?_;unfold Lib.contains;have hi:=fun w μc hw hm=>XX s t hs w μc hw hm;generalize Lib.index s t=k at hi⊢;try repeat' (first|refine KO ?_|refine K2 177 (fun w μc hw a=>hi w μc hw (hm.mono a)) ?_)
 all_goals first|skip
 all_goals exact aQ rfl rfl rfl
attribute [local irreducible] Lib.contains mS
theorem aBn(l:List UInt8)(hl:l.length≤1000000)(w:World)(μ:Mem)(hμ:MOk μ w)(hm:vN μ):bC 142 #[.string (ofB l)] w (.int .i64 (wdL l)):=by
 generalize f:wdL l=R;unfold wdL at f;have hn:=fun(w:World) (μc:Mem) (hw:MOk μc w)=>aBo l hl w μc hw;have j:=fun w μc hw (hle:MLe μ μc)=>zW VJ ([32]++l++[32]) (by decide) w μc hw (hm.mono hle);have i:=fun w μc hw (hle:MLe μ μc)=>zW TC ([32]++l++[32]) (by decide) w μc hw (hm.mono hle);refine aF Tryz.func142 rfl Tryz.ntmps142 (by simp) hμ ?_;dsimp only[List.append];have g:∀{a c:List UInt8},ofB a=ofB c→a=c:=fun{a c} h=>by have:=congrArg bl h;rwa[SK,SK]at this
 by_cases h0:mS l=[]
 ·rw[if_pos (.inl h0)]at f;subst f;rw[h0]at hn;have o:(ofB ([]:List UInt8))=⟨#[]⟩:=rfl;try repeat' (first|refine KO ?_|refine K2 166 (fun w μc hw e=>hn w μc hw) ?_)
  all_goals exact aQ rfl rfl rfl
 have o:¬ofB (mS l)=⟨#[]⟩:=fun h=>h0 (g (c:=[]) h);by_cases h1:mS l=l
 rotate_left
 ·rw[if_pos (.inr h1)]at f;subst f;have h2:¬ofB (mS l)=ofB l:=fun h=>h1 (g h);generalize mS l=u at hn o h2;try repeat' (first|refine KO ?_|refine K2 166 (fun w μc hw e=>hn w μc hw) ?_|refine KZ ?_)
  all_goals exact aQ rfl rfl rfl
 rw[if_neg (fun h=>h.elim h0 (fun h=>h h1))]at f;rw[h1]at hn o;generalize Lib.contains VJ ([32]++l++[32])=cA at f j;generalize Lib.contains TC ([32]++l++[32])=cS at f i;try repeat' (first|refine KO ?_|refine K2 166 (fun w μc hw e=>hn w μc hw) ?_|((with_reducible apply F1 167);exact rfl;exact EN;(first|exact fun w μc hw e=>j w μc hw e.le|exact fun w μc hw e=>i w μc hw e.le))|(refine KV (b:=by first|((with_reducible apply aHw (a:=[32]));exact rfl;exact rfl;(simp only[bH,bM];omega))|((with_reducible apply aHw (b:=[32]));exact rfl;exact rfl;(simp only[aI,bH,bM];omega))) (c:=?_))|refine KZ ?_|(refine KB ?_ ?_<;>intro p))
 all_goals first|skip
 all_goals refine aQ rfl rfl ?_
 all_goals simp_all
end
section
open Go.RowKit Go.Vcg Ou
theorem gY{P:Program}{fn:Func}{n:Nat}{μ μ0:Mem}{l:bS}{L Lr:List Bk}{M:List Nat}{w:World}{xb mb:Nat}{s s' :ES}{ex:Exit}(k:Nat)(i:List FR)(he:ex=.ret∨ex=.normal)(b:∀D,M.count D≤1)(hr:fn.results= #[])(hL:splitB k L=some (Lr,EB xb mb s i))(hs:s=s')(a:ER μ i s):
 GQ ⟨w,μ0,M,n⟩ (bodyPost P fn (fun e w' =>∃(v:Value) (μ' :Mem) (i:List FR),e=.returned v∧mW M w w' μ0 (EB xb mb s' i) μ' ∧ER μ' i s')) ex μ l L:=by
 subst hs;exact zH (Ls:=fun i=>EB xb mb s i) (Post:=fun μ' _ i=>ER μ' i s) k i he b hr hL rfl (fun μ' _ hle=>a.mono hle)
theorem aBi(x:ByteArray):ofB (bl x)=x:=by
 cases x;simp[bl,ofB]
theorem aMk:("let".toUTF8:ByteArray)=⟨#[108,101,116]⟩:=by decide+kernel
theorem aFa:("yield".toUTF8:ByteArray)=⟨#[121,105,101,108,100]⟩:=by decide+kernel
attribute [local irreducible] wdL anI nW mkD G GC GQ GA eV Calls IntKind.wrap Int.decLt Int.decLe
theorem aQe(x:ByteArray)(a:x.size≤1000000)(w:World)(μ:Mem)(hμ:MOk μ w)(hm:vN μ):bC 142 #[.string x] w (.int .i64 (wdF x)):=by
 have h:=aBn (bl x) (by rw[EJ];exact a) w μ hμ hm;rwa[aBi]at h
theorem sK(xb mb:Nat)(t:T)(u:Value)(hu:u.oneCell' =true)(x:ByteArray)(l:x.size≤1000000)(p:EP)(pv:Value)(s:ES)(μ:Mem)(h:PV μ p pv)(hm:vN μ):
 CEs 105 [.pointer (some ⟨xb,0,none⟩),.agg (cO t u).toArray,.string x,pv] xb mb s (nO wdF t x p s) μ:=by
 intro w fs hμ g j;have c:=dW j.diff;obtain⟨r,lb,lo,mi,rfl,hr,h2,h3,h4⟩:=h;have o1:=hr.one;have o2:=h2.one;have o3:=h3.one;have o4:=h4.one;have hw:=fun w μc hw (hle:MLe μ μc)=>aQe x l w μc hw (hm.mono hle);generalize a:nO wdF t x p s=s';unfold nO at a;generalize wdF x=wd at hw a;refine cI Tryz.func105 rfl Tryz.ntmps105 (by simp) hμ j ?_;rw[aMk,aFa]at a;try repeat' (first|refine KO ?_|(refine CF 106 ?_;refine jP 2 rfl rfl rfl EN rfl g (rP xb mb t _ hu _ _ _ _) ?_;intro v1 μ1 i1 i g;dsimp only[aU,aY])|((with_reducible apply F1 142);exact rfl;exact EN;exact fun w μc e f=>hw w μc e f.le)|refine KZ ?_|refine NB fun b=>?_|(refine KB ?_ ?_<;>intro h))
 all_goals exact gY 2 i1 (.inr rfl) c rfl rfl (by rw[←a];simp_all) g
end
section
open Go.RowKit Go.Vcg
inductive dJ (q:T→Prop):T→Prop
 |mk {t:T} (h:q t) (hk:∀k∈t.kids,dJ q k):dJ q t
theorem dJ.here{q:T→Prop}{t:T}(h:dJ q t):q t:=by cases h;assumption
theorem dJ.kid{q:T→Prop}{t k:T}(h:dJ q t)(hk:k∈t.kids):dJ q k:=by
 cases h with
 |mk _ h=>exact h k hk
structure Kc (t:T):Prop where
 two:t.op=4∨t.op=20∨t.op=13∨t.op=14∨t.op=62∨t.op=63→2≤t.kids.length
 one:t.op=10∨t.op=11∨t.op=12∨t.op=21∨t.op=9∨t.op=23∨t.op=42∨(t.op=39∧t.n=3)→1≤t.kids.length
 sub:t.op=2→∀k∈t.kids,1≤k.kids.length
def szs(l:List T):Nat:=(l.map T.size).sum
theorem bK(k:T)(l:List T):szs (k::l)=k.size+szs l:=by simp[szs]
theorem BE(a b:List T):szs (a++b)=szs a+szs b:=by simp[szs]
theorem aS(t:T):t.size=1+szs t.kids:=T.size_eq t
def DH(l:List (ByteArray×List ED)):Nat:=(l.map fun p=>p.2.length).sum
theorem aD9(x:ByteArray):∀l:List (ByteArray×List ED),(oA x l).length≤DH l
 |[]=>aC _
 | (y,m)::r=>by have:=aD9 x r;simp only[oA,DH,aL,dY]at this⊢;split<;>omega
theorem aC7(x:ByteArray)(d:ED):∀l:List (ByteArray×List ED),DH (wX x (oA x l++[d]) l)=DH l+1
 |[]=>by simp[oA,wX,DH]
 | (y,m)::r=>by
   have:=aC7 x d r;simp only[oA,wX];by_cases h:x=y
   ·rw[if_pos h,if_pos h];simp[DH];omega
   ·rw[if_neg h,if_neg h];simp only[DH,aL,dY]at this⊢;omega
theorem uU(x y:ByteArray)(m:List ED):∀l:List (ByteArray×List ED),oA y (wX x m l)=if y=x then m else oA y l
 |[]=>by simp[oA,wX]
 | (z,k)::r=>by
   have:=uU x y m r;simp only[wX];by_cases h:x=z
   ·rw[if_pos h];simp only[oA];by_cases h2:y=x
    ·rw[if_pos (h2.trans h),if_pos h2]
    ·rw[if_neg (fun e=>h2 (e.trans h.symm)),if_neg h2,if_neg (fun e=>h2 (e.trans h.symm))]
   ·rw[if_neg h];simp only[oA];by_cases h2:y=z
    ·rw[if_pos h2,if_neg (fun e=>h (e.symm.trans h2)),if_pos h2]
    ·rw[if_neg h2,this,if_neg h2]
structure Gr (F:ByteArray→Prop) (n:Nat) (s s' :ES):Prop where
 per:s.e≠0→s'.e≠0
 regs:s.regs≤s'.regs
 wt:s'.regs+DH s'.names≤s.regs+DH s.names+n
 fr:∀x,F x→oA x s'.names=oA x s.names
theorem Gr.refl{F:ByteArray→Prop}{n:Nat}(s:ES):Gr F n s s:=⟨fun h=>h,aC _,by omega,fun _ _=>rfl⟩
theorem Gr.trans{F:ByteArray→Prop}{n m k:Nat}{s s' s'' :ES}(h:Gr F n s s')(a:Gr F m s' s'')(hk:n+m≤k):Gr F k s s'' :=
 ⟨fun h0=>a.per (h.per h0),dU h.regs a.regs,by have:=h.wt;have:=a.wt;omega,fun x b=>(a.fr x b).trans (h.fr x b)⟩
theorem Gr.mono{F:ByteArray→Prop}{n m:Nat}{s s' :ES}(h:Gr F n s s')(hk:n≤m):Gr F m s s' :=⟨h.per,h.regs,by have:=h.wt;omega,h.fr⟩
section
variable{F:ByteArray→Prop}
theorem IC{c:Bool}{a e:Int}{s:ES}(h:s.e≠0):iX c a e s=s:=by unfold iX;rw[if_neg (fun h2=>h h2.2)]
theorem gN(c:Bool)(a e:Int)(s:ES):(iX c a e s).names=s.names:=by unfold iX;split<;>rfl
theorem OV(c:Bool)(a e:Int)(s:ES):(iX c a e s).regs=s.regs:=by unfold iX;split<;>rfl
theorem mC(c:Bool)(a e:Int)(s:ES):Gr F 0 s (iX c a e s):=
 ⟨fun h=>by rw[IC h];exact h,by rw[OV];exact aC _,by rw[OV,gN];omega,fun x _=>by rw[gN]⟩
theorem UF(a:Int)(x:ByteArray)(d:ED)(s:ES)(c:¬F x):Gr F 1 s (rV a x d s):=by
 have h:=mC (F:=F) ((oA x s.names).any fun o=>nM o d) a 30 s;refine⟨h.per,h.regs,?_,fun y b=>?_⟩
 ·show(iX _ a 30 s).regs+DH (wX x (oA x (iX _ a 30 s).names++[d]) (iX _ a 30 s).names)≤_
  rw[aC7];have:=h.wt;omega
 ·show oA y (wX x (oA x (iX _ a 30 s).names++[d]) (iX _ a 30 s).names)=_
  rw[uU,if_neg (fun e=>c (by rw[←e];exact b))];exact h.fr y b
theorem rG(wd:ByteArray→Int)(t:T)(x:ByteArray)(p:EP)(s:ES):Gr F 0 s (nO wd t x p s):=by
 unfold nO;dsimp only;split
 ·exact((mC _ _ _ _).trans (mC _ _ _ _) (aC _)).trans (mC _ _ _ _) (aC _)
 ·exact(mC _ _ _ _).trans (mC _ _ _ _) (aC _)
theorem tZ(s:ES):Gr F 1 s (eX s):=⟨fun h=>h,Nat.le_succ _,by show s.regs+1+DH s.names≤_;omega,fun _ _=>rfl⟩
theorem pF{α:Type}{g:ES→α→ES}{c:α→Nat}:∀(l:List α) (s:ES),(∀k∈l,∀s,Gr F (c k) s (g s k))→Gr F ((l.map c).sum) s (l.foldl g s)
 |[],s,_=>Gr.refl s
 | k::r,s,h=>by rw[bX];exact(h k (by simp) s).trans (pF r (g s k) fun k hk=>h k (bP hk)) (by simp)
theorem rB(l:List T):(l.map fun k=>2*T.size k).sum=2*szs l:=by
 induction l with
 |nil=>rfl
 |cons k r ih=>rw[aL,dY,ih,bK];omega
theorem eQ{t:T}{i:Nat}(h:i<t.kids.length):cJ t i∈t.kids:=by
 unfold cJ;rw[aA h];exact lZ h
theorem yT{t:T}(h:2≤t.kids.length):∃r,t.kids=cJ t 0::cJ t 1::r:=by
 unfold cJ;match hk:t.kids with
 |[]=>rw[hk]at h;simp at h
 |[_]=>rw[hk]at h;simp at h
 |a::b::r=>exact⟨r,rfl⟩
theorem IW{t:T}(h:1≤t.kids.length):t.kids=cJ t 0::t.kids.drop 1:=by
 unfold cJ;match hk:t.kids with
 |[]=>rw[hk]at h;simp at h
 |a::r=>rfl
variable{wd:ByteArray→Int}{N:T→EP→ES→ES}{B:T→EP→ED→ES→ES}{q:T→Prop}
theorem AD(l:List T)(a:∀k∈l,∀p s,Gr F (2*k.size) s (N k p s))(p:EP)(s:ES):Gr F (2*szs l) s (nC N l p s):=by
 rw[←rB];exact pF l s fun k hk s=>a k hk p s
theorem AB(t:T)(a:∀p s,Gr F (2*t.size) s (N t p s))(p:EP)(s:ES):Gr F (2*t.size) s (lN N t p s):=by
 unfold lN;exact(mC _ _ _ _).trans (a _ _) (by omega)
theorem aN2(hq:∀t,q t→Kc t∧¬F t.s)(t:T)(ht:dJ q t)(e:∀k∈t.kids,∀p s,Gr F (2*k.size) s (N k p s))(b:∀k∈t.kids,∀p d s,Gr F (2*k.size) s (B k p d s))(p:EP)(d:ED)(s:ES):Gr F (2*t.size) s (DF wd N B t p d s):=by
 obtain⟨hc,hf⟩:=hq t ht.here;have a:=aS t;unfold DF;split
 ·exact(rG _ _ _ _ _).trans (UF _ _ _ _ hf) (by omega)
 split
 ·exact(mC _ _ _ _).mono (by omega)
 split
 ·rename_i h;have h2:=hc.two (by simp[h]);obtain⟨r,hr⟩:=yT h2;rw[hr,bK,bK]at a;exact(b _ (eQ (by omega)) _ _ _).trans (e _ (eQ (by omega)) _ _) (by omega)
 split
 ·rename_i h;have h2:=hc.two (by simp[h]);obtain⟨r,hr⟩:=yT h2;rw[hr,bK,bK]at a;exact(e _ (eQ (by omega)) _ _).trans (b _ (eQ (by omega)) _ _ _) (by omega)
 split
 ·have:=pF (F:=F) (c:=fun k=>2*T.size k) (g:=fun s k=>B k p d s) t.kids s fun k hk s=>b k hk p d s;rw[rB]at this;exact this.mono (by omega)
 ·exact Gr.refl s
theorem aR3(hq:∀t,q t→Kc t∧¬F t.s)(t:T)(ht:dJ q t)(h4:t.op=4)(e:∀k,dJ q k→k.size<t.size→∀p s,Gr F (2*k.size) s (N k p s))(j:∀k,dJ q k→k.size<t.size→∀p d s,Gr F (2*k.size) s (B k p d s))(p:EP)(own:Bool)(s:ES):Gr F (2*t.size) s (UO wd N B t p own s):=by
 obtain⟨hc,hf⟩:=hq t ht.here;have b:=aS t;have h2:=hc.two (by simp[h4]);obtain⟨r,hr⟩:=yT h2;rw[hr,bK,bK]at b;have h:=aS (cJ t 0);have f:=aS (cJ t 1);have c:=ht.kid (eQ (t:=t) (i:=0) (by omega));have a:=ht.kid (eQ (t:=t) (i:=1) (by omega));have hle:∀{k l},k∈l→T.size k≤szs l:=fun{k l} hk=>T.eL (List.mem_map.2 ⟨k,hk,rfl⟩);unfold UO;dsimp only;have g1:∀s,Gr F 0 s (if t.s≠⟨#[]⟩then nO wd t t.s { p with strict:=(inP t p).strict } s else s):=fun s=>by
  split
  ·exact rG _ _ _ _ _
  ·exact Gr.refl s
 have g3:∀s,Gr F 1 s (if pS t.n 1 then rV t.at' t.s ⟨!own,if own then p.regs else mB p,0,false⟩ s else s):=fun s=>by
  split
  ·exact UF _ _ _ _ hf
  ·exact Gr.refl s
 have g:=(((g1 s).trans (mC (qG t&& !pD (cJ t 0)) t.at' 35 _) (aC _)).trans (g3 _) (aC _)).trans (tZ _) (aC _);have hb:∀p d s,Gr F (2*szs (cJ t 0).kids) s ((cJ t 0).kids.foldl (fun s k=>B k p d s) s):=fun p d s=>by rw[←rB];exact pF _ _ fun k hk s=>j k (c.kid hk) (by have:=hle hk;omega) p d s
 split
 ·exact(g.trans (hb _ _ _) (aC _)).trans (e _ a (by omega) _ _) (by omega)
 ·exact(g.trans (hb _ _ _) (aC _)).trans (AD _ (fun k hk=>e k (a.kid hk) (by have:=hle hk;omega)) _ _) (by omega)
theorem aNv(hq:∀t,q t→Kc t∧¬F t.s)(t:T)(ht:dJ q t)(h4:t.op=2)(f:∀k,dJ q k→k.size<t.size→∀p s,Gr F (2*k.size) s (N k p s))(h:∀k,dJ q k→k.size<t.size→∀p d s,Gr F (2*k.size) s (B k p d s))(p:EP)(each:Bool)(s:ES):Gr F (2*t.size) s (EU N B t p each s):=by
 obtain⟨hc,hf⟩:=hq t ht.here;have e:=aS t;have hle:∀{k l},k∈l→T.size k≤szs l:=fun{k l} hk=>T.eL (List.mem_map.2 ⟨k,hk,rfl⟩);unfold EU;dsimp only;have:=pF (F:=F) (c:=fun k=>2*T.size k) (g:=fun s k=>nC N (k.kids.drop 1) p (B (cJ k 0) p (if t.n≠0 then⟨true,mB p,0,false⟩else⟨false,p.regs,0,false⟩) (iX (decide (k.kids.length=1)&& !each&&(decide (t.n=2)||decide ((cJ k 0).op≠34))) k.at' 36 s))) t.kids s fun k hk s=>by have h1:=hc.sub h4 k hk;have h2:=IW h1;have h3:=aS k;rw[h2,bK]at h3;have h5:=hle hk;have a:=ht.kid hk;exact((mC _ _ _ _).trans (h _ (a.kid (eQ (by omega))) (by omega) _ _ _) (aC _)).trans (AD _ (fun x b=>f x (a.kid (cU b)) (by have:=hle b;omega)) _ _) (by omega)
 rw[rB]at this;exact this.mono (by omega)
theorem aNy(t:T)(ht:dJ q t)(hc:Kc t)(i:t.op=10∨t.op=11∨t.op=12∨t.op=13∨t.op=14)(j:∀k,dJ q k→k.size<t.size→∀p s,Gr F (2*k.size) s (N k p s))(p:EP)(mine:List ByteArray)(s:ES):Gr F (2*t.size) s (FJ N t p mine s):=by
 have f:=aS t;have hle:∀{k l},k∈l→T.size k≤szs l:=fun{k l} hk=>T.eL (List.mem_map.2 ⟨k,hk,rfl⟩);have a:∀k∈t.kids,∀p s,Gr F (2*k.size) s (N k p s):=fun k hk=>j k (ht.kid hk) (by have:=hle hk;omega);have hr:∀k∈t.kids,∀p s,Gr F (2*k.size) s (sA N k p mine s):=fun k hk p s=>AB k (a k hk) _ s;unfold FJ;split
 ·have h2:=hc.two (by simp[*]);obtain⟨r,b⟩:=yT h2;rw[b,bK,bK]at f;exact(a _ (eQ (by omega)) _ _).trans (hr _ (eQ (by omega)) _ _) (by omega)
 split
 ·have h2:=hc.two (by simp[*]);obtain⟨r,b⟩:=yT h2;rw[b,bK,bK]at f;exact(hr _ (eQ (by omega)) _ _).trans (a _ (eQ (by omega)) _ _) (by omega)
 ·have h1:=hc.one (by omega);dsimp only;have e:t.kids=t.kids.take (t.kids.length-1)++[cJ t (t.kids.length-1)]:=by
   unfold cJ
   conv=>lhs;rw[←dN (t.kids.length-1) t.kids]
   congr 1;rw[eE (by omega),aA (by omega),List.drop_eq_nil_of_le (by omega)];rfl
  have h:szs t.kids=szs (t.kids.take (t.kids.length-1))+ (cJ t (t.kids.length-1)).size:=by
   conv=>lhs;rw[e]
   rw[BE,bK];rfl
  have:=pF (F:=F) (c:=fun k=>2*T.size k) (g:=fun s k=>N k { iE p s with each:=decide (t.op≠10) } s) (t.kids.take (t.kids.length-1)) (eX s) fun k hk s=>a k (bE hk) _ s;have h3:∀(P:EP) (s:ES),Gr F (2*szs (t.kids.take (t.kids.length-1))) s ((t.kids.take (t.kids.length-1)).foldl (fun s k=>N k P s) s):=fun P s=>by rw[←rB];exact pF _ _ fun k hk s=>a k (bE hk) P s
  exact((tZ s).trans (h3 _ _) (aC _)).trans (hr _ (eQ (by omega)) _ _) (by omega)
theorem aD6(t:T)(p:EP)(s:ES):Gr F 0 s (IX wd t p s):=by
 unfold IX;split
 ·exact mC _ _ _ _
 ·exact((rG _ _ _ _ _).trans (mC _ _ _ _) (aC _)).trans (mC _ _ _ _) (aC _)
theorem aNw(t:T)(c:∀k∈t.kids,∀p s,Gr F (2*k.size) s (N k p s))(p:EP)(s:ES):Gr F (2*t.size) s (zL wd N t p s):=by
 have b:=aS t;have a:∀s,Gr F (2*szs t.kids) s (nC N t.kids p s):=fun s=>AD _ c p s;unfold zL;split
 ·exact(aD6 _ _ _).trans (a _) (by omega)
 split
 ·exact(mC _ _ _ _).trans (a _) (by omega)
 split
 ·exact(rG _ _ _ _ _).trans (a _) (by omega)
 split
 ·exact(rG _ _ _ _ _).mono (by omega)
 split
 ·exact(mC _ _ _ _).trans (a _) (by omega)
 split
 ·exact(mC _ _ _ _).trans (a _) (by omega)
 ·exact(a _).mono (by omega)
theorem aNx(hq:∀t,q t→Kc t∧¬F t.s)(t:T)(ht:dJ q t)(c:∀k,dJ q k→k.size<t.size→∀p s,Gr F (2*k.size) s (N k p s))(f:∀k,dJ q k→k.size<t.size→∀p d s,Gr F (2*k.size) s (B k p d s))(p:EP)(s:ES):Gr F (2*t.size) s (CQ wd N B t p s):=by
 obtain⟨hc,hf⟩:=hq t ht.here;have b:=aS t;have hle:∀{k l},k∈l→T.size k≤szs l:=fun{k l} hk=>T.eL (List.mem_map.2 ⟨k,hk,rfl⟩);have a:∀k∈t.kids,∀p s,Gr F (2*k.size) s (N k p s):=fun k hk=>c k (ht.kid hk) (by have:=hle hk;omega);unfold CQ;dsimp only;split
 ·exact Gr.refl s
 split
 ·exact aNv hq t ht (by assumption) c f _ _ _
 split
 ·exact aR3 hq t ht (by assumption) c f _ _ _
 split
 ·exact(tZ s).trans (AD _ a _ _) (by omega)
 split
 ·have h2:=hc.two (by simp[*]);obtain⟨r,hr⟩:=yT h2;rw[hr,bK,bK]at b;have g:=aS (cJ t 1);have e:=ht.kid (eQ (t:=t) (i:=1) (by omega));exact((tZ s).trans (f _ (ht.kid (eQ (by omega))) (by omega) _ _ _) (aC _)).trans (AD _ (fun k hk=>c k (e.kid hk) (by have:=hle hk;omega)) _ _) (by omega)
 split
 ·exact aNy t ht hc (by assumption) c _ _ _
 split
 ·have h1:=hc.one (by simp[*]);have h2:=IW h1;rw[h2,bK]at b;exact((a _ (eQ (by omega)) _ _).trans (tZ _) (aC _)).trans (AD _ (fun k hk=>a k (cU hk)) _ _) (by omega)
 split
 ·have h1:=hc.one (by simp[*]);have h2:=IW h1;rw[h2,bK]at b;have h3:∀(P:EP) (s:ES),Gr F (2*szs (t.kids.drop 1)) s ((t.kids.drop 1).foldl (fun s k=>lN N k P s) s):=fun P s=>by rw[←rB];exact pF _ _ fun k hk s=>AB k (a k (cU hk)) P s
  exact(a _ (eQ (by omega)) _ _).trans (h3 _ _) (by omega)
 split
 ·have h1:=hc.one (by simp[*]);have h2:=IW h1;rw[h2,bK]at b;exact((rG _ _ _ _ _).trans (mC _ _ _ _) (aC _)).trans (AB _ (a _ (eQ (by omega))) _ _) (by omega)
 ·exact aNw t a _ _
theorem RL(hq:∀t,q t→Kc t∧¬F t.s):∀(f:Nat) (t:T),dJ q t→(∀p s,Gr F (2*t.size) s ((nbE wd f).1 t p s))∧∀p d s,Gr F (2*t.size) s ((nbE wd f).2 t p d s)
 |0,t,_=>⟨fun _ s=>Gr.refl s,fun _ _ s=>Gr.refl s⟩
 | f +1,t,ht=>⟨fun p s=>aNx hq t ht (fun k hk _=>(RL hq f k hk).1) (fun k hk _=>(RL hq f k hk).2) p s,
     fun p d s=>aN2 hq t ht (fun k hk=>(RL hq f k (ht.kid hk)).1) (fun k hk=>(RL hq f k (ht.kid hk)).2) p d s⟩
end
end
end Go.Proofs.YtlllalmkkaolfaaGreatDoor
namespace Go.Vcg
open Go.RowKit Go.MapKept
section
variable{P:Program}{X:Ctx}{ops:Array Oper}{Q:Exit→Act→World→Prop}{rest:List Oper}{μ:Mem}{l:bS}{L:List Bk}{w:World}
variable{ty:TypeId}{pos:String}{af:Array Edge}{gd:Option (Nat×Bool)}
theorem vS{t kt et:TypeId}{dk:TypeDesc}{b ck i:Nat}{es:List MapEntry}{k v old:Value}(ht:P.underlying t=some (.map kt et))(hk:P.underlying kt=some dk)(a:IsKey dk k)
 (hb:w.heap[b]? =some (.map es.toArray ck))(hf:Instr.findNow dk k es 0=some (some (i,old)))(he:(es[i]?).map (·.key)=some k):(Instr.mapUpdate t (.map (some b)) k v).run P w=.ok () { w with heap:=w.heap.setIfInBounds b (.map (es.modify i fun e=>{ e with key:=k,val:=v }).toArray ck) }:=by
 have h1:(((es.toArray[i]?).map (·.key)).getD k)=k:=by rw[fM,he];rfl
 simp[Instr.mapUpdate,run_underlying ht,MapKept.run_getObj_map hb,MapKept.run_checkKey hk a,MapKept.run_findKey hk hf,MapKept.run_setObj_map _ hb];rw[fM]at h1;simp only[h1];rw[MapKept.run_keyThatStays a];simp[MapKept.run_setObj_map _ hb]
theorem NU{t kt et:TypeId}{dk:TypeDesc}{m k x:Operand}{b ck i0:Nat}{es:List MapEntry}{kv v old:Value}{F:Mp→List Bk}{op:Op}(g:op=.insert t m k x∨op=.mapUpdate t m k x)(hw:iF ops l ⟨none,op,ty,pos,af,gd⟩=some true)(hm:ev l m=some (.map (some b)))(hk:ev l k=some kv)(o:ev l x=some v)
 (ht:P.underlying t=some (.map kt et))(j:P.underlying kt=some dk)(f:IsKey dk kv)(hu:UpM L b ⟨b,es,ck⟩ F)(hf:Instr.findNow dk kv es 0=some (some (i0,old)))(he:(es[i0]?).map (·.key)=some kv)
 (h:G P X ops Q rest μ l (F ⟨b,es.modify i0 fun e=>{ e with key:=kv,val:=v },ck⟩)):G P X ops Q (⟨none,op,ty,pos,af,gd⟩::rest) μ l L:=
 AH hw fun a w hs=>by
  obtain⟨i,hi,_,p⟩:=hu;have hb:w.heap[b]? =some (.map es.toArray ck):=hs.own _ (fB hi);have e1:=hs.eval hm;have e2:=hs.eval hk;have e3:=hs.eval o;have e:(execOp a.eval ⟨none,op,ty,pos,af,gd⟩).run P w=.ok .skip { w with heap:=w.heap.setIfInBounds b (.map (es.modify i0 fun e=>{ e with key:=kv,val:=v }).toArray ck) }:=by generalize a.eval=ρ at e1 e2 e3;rcases g with rfl|rfl<;>simp[execOp,e1,e2,e3,vS ht j f hb hf he]
  unfold Oper.wp
  rw[e,Oper.upon_skip];have hlt:=(Array.getElem?_eq_some_iff.1 hb).1;have:=hs.upd hi (y:=.mp ⟨b,es.modify i0 fun e=>{ e with key:=kv,val:=v },ck⟩) (w' :={ w with heap:=w.heap.setIfInBounds b (.map (es.modify i0 fun e=>{ e with key:=kv,val:=v }).toArray ck) }) rfl rfl rfl (by simp)
   (fun c hc hne=>by
     have:b≠c:=fun e=>hne (by rw[e];rfl);simp[dH this])
   (by show(w.heap.setIfInBounds b _)[b]? =_;rw[cT hlt])
   (fun c hc=>.inl hc)
  rw[p]at h;exact h _ _ this
end
theorem KK{X:Ctx}{Q:Exit→Act→World→Prop}{μ:Mem}{l:bS}{L:List Bk}{ex:Exit}{b ck ck' :Nat}{es es' :List MapEntry}(i:Nat)(hi:iI L i=some (.mp ⟨b,es,ck⟩))(he:es=es')(hc:ck=ck')(h:GQ X Q ex μ l (fT L i (.mp ⟨b,es',ck'⟩))):GQ X Q ex μ l L:=by
 subst he hc;rw[SW hi]at h;exact h
end Go.Vcg
namespace Go.Proofs.YtlllalmkkaolfaaGreatDoor
open Go.RowKit Go.Vcg Go.MapKept
theorem XW{P:Program}{et:TypeId}(a:oL P et=some (.slice none 0 0))(x:ByteArray)(fs:List FR):∃ok,qU P et (Instr.findNow .string (.string x) (mkD fs 0) 0)=some ((match zZ x fs 0 with|some (_,f)=>f.v|none=>.slice none 0 0),ok):=by
 rw[NX];cases zZ x fs 0 with
 |none=>exact⟨false,by simp[qU,a]⟩
 |some p=>exact⟨true,rfl⟩
def DsV(μ:Mem)(v:Value)(ds:List (ED×Value)):Prop:=∃A c,v=.slice A ds.length c∧Sl vF 4 μ A ds.length ds
theorem aUr(l:List (ED×Value)):(l.flatMap vF).length=l.length*4:=nP (enc:=vF) (s:=4) (fun _=>rfl) l
theorem DsV.nH{μ:Mem}{f:FR}(h:Bk.sh (OB f) μ):DsV μ f.v f.ds:=by
 obtain⟨k,v,ds⟩:=f;obtain⟨A,c,e,a⟩:=tM (enc:=vF) (xs:=ds) h rfl (by simp) rfl;dsimp only at e a⊢;subst e;exact⟨A,c,rfl,a⟩
attribute [local irreducible] wdL anI nW mkD G GC GQ GA eV Calls IntKind.wrap Int.decLt Int.decLe
theorem YM(f:FuncId)(cap:List Value)(q1:ED→Bool)(l:List (ED×Value))(A:Option Addr)(n c:Nat)(w:World)(μ:Mem)(hμ:MOk μ w)(aa:jF Tryz.prog f=true)(hS:Sl vF 4 μ A n l)(v:∀p∈l,p.2.oneCell' =true)(hn:n≤1000000)(z:∀(o:ED×Value) (w:World) (μ' :Mem),o∈l→MOk μ' w→MLe μ μ' →Calls Tryz.prog f ([Value.agg (vF o).toArray]++cap).toArray w fun e w' =>e=.returned (.bool (q1 o.1))∧Below w.heap.size w w'):
 bC 173 #[.slice A n c,.func (.func f) #[] cap.toArray] w (.int .i64 (firstT (l.map fun o=>q1 o.1))):=by
 refine aF Tryz.func173 rfl Tryz.ntmps173 (by simp) hμ ?_;have x:l.length=n:=hS.1;have ab:(l.map fun o=>q1 o.1).length=n:=by rw[aO];exact x
 try repeat' (refine KZ ?_)
 refine cD (ι:=Nat) (fun k=>k≤n∧∀(j:Nat) (q:Bool),j<k→(l.map fun o=>q1 o.1)[j]? =some q→q=false) (fun k=>n-k) (fun _=>μ) (fun k=>[(8,.int .i64 k),(7,.int .i64 n),(6,.slice A n c),(0,.slice A n c),(1,.func (.func f) #[] cap.toArray)]) (fun _=>[]) 0 ⟨by omega,fun j _ h=>absurd h (by omega)⟩ (fun a w hs=>J5 hs) ?_;rintro k ⟨hk,hf⟩;by_cases hlt:k<n
 ·obtain⟨ad,o,rfl,ho,hm⟩:=hS.get hlt;have i:(l.map fun o=>q1 o.1)[k]? =some (q1 o.1):=by rw[aX,ho];rfl
  have hc:=fun w μc hw (hle:MLe μ μc)=>z o w μc (aB ho) hw hle;have ae:=v o (aB ho);generalize q1 o.1=q at i hc;obtain⟨d,dv⟩:=o;have t:gF μ (ad.add (k*4)) [.bool d.lex,dv,.int .i64 d.par,.bool d.twice]:=hm;have r:q=false→∀(j:Nat) (q:Bool),j<k+1→(l.map fun o=>q1 o.1)[j]? =some q→q=false:=fun h j p y u=>by
   rcases dL j k with h1|h1
   ·exact hf j p h1 u
   ·obtain rfl:j=k:=by omega
    rw[i]at u;cases u;exact h
  cases q
  ·have hb:=r rfl;try repeat' (first|refine KO ?_|((with_reducible apply C1);exact rfl;exact EN;exact fun w μc hw g=>hc w μc hw g.le)|(refine KV (b:=by first|exact U1 k|exact U4 t) (c:=?_))|refine KZ ?_)
   all_goals exact J2 (k+1) ⟨by omega,hb⟩ (by omega)
  ·try repeat' (first|refine KO ?_|((with_reducible apply C1);exact rfl;exact EN;exact fun w μc hw g=>hc w μc hw g.le)|(refine KV (b:=by first|exact U1 k|exact U4 t) (c:=?_)))
   all_goals refine aQ rfl rfl ?_
   all_goals rw[uJ i hf]
 ·try repeat' (refine KZ ?_)
  refine aQ rfl rfl ?_;rw[qX (fun j q y=>hf j q (by have:=(List.getElem?_eq_some_iff.1 y).1;omega) y)]
theorem OK(f:FuncId)(cap:List Value)(q1:ED→Bool)(l:List (ED×Value))(v:Value)(w:World)(μ:Mem)(hμ:MOk μ w)(b:jF Tryz.prog f=true)(hv:DsV μ v l)(g:∀p∈l,p.2.oneCell' =true)(hn:l.length≤1000000)(i:∀(o:ED×Value) (w:World) (μ' :Mem),o∈l→MOk μ' w→MLe μ μ' →Calls Tryz.prog f ([Value.agg (vF o).toArray]++cap).toArray w fun e w' =>e=.returned (.bool (q1 o.1))∧Below w.heap.size w w'):
 bC 163 #[v,.func (.func f) #[] cap.toArray] w (.bool ((l.map (·.1)).any q1)):=by
 obtain⟨A,c,rfl,j⟩:=hv;refine aF Tryz.func163 rfl Tryz.ntmps163 (by simp) hμ ?_;have h:decide (0≤firstT (l.map fun o=>q1 o.1))=(l.map (·.1)).any q1:=by rw[sJ,jT,jT];rfl
 rw[←h];try repeat' (first|refine KO ?_|((with_reducible apply C1);exact rfl;exact EN;exact fun w μc hw a=>YM f cap q1 l A l.length c w μc hw b (j.mono a.le) g hn (fun o w μ' h1 h2 h3=>i o w μ' h1 h2 (a.le.trans h3))))
 exact aQ rfl rfl rfl
theorem PP(a d:ED)(av dv:Value)(bc:Nat)(w:World)(μ:Mem)(hμ:MOk μ w)(i:IsV μ av a.ins)(hd:IsV μ dv d.ins)(h:a.ins.length≤100000)(hl:d.ins.length≤100000)(hm:gF μ ⟨bc,0,none⟩ (vF (d,dv))):
 Calls Tryz.prog 164 ([Value.agg (vF (a,av)).toArray]++[Value.pointer (some ⟨bc,0,none⟩)]).toArray w fun e w' =>e=.returned (.bool (nM a d))∧Below w.heap.size w w' :=by
 have oa:=i.one;have od:=hd.one;refine aF Tryz.func164 rfl Tryz.ntmps164 (by simp) hμ ?_;have g:gF μ (Addr.mk bc 0 none) [.bool d.lex,dv,.int .i64 d.par,.bool d.twice]:=hm;try repeat' (first|refine KO ?_|((with_reducible apply C1);exact rfl;exact EN;exact fun w μc hw f=>aCq a d av dv w μc hw (i.mono f.le) (hd.mono f.le) h hl)|(refine KV (b:=by((with_reducible apply LF);(iterate 3 exact rfl);exact g;exact rfl)) (c:=?_))|refine KZ ?_|refine NB fun b=>?_)
 exact aQ rfl rfl rfl
theorem aKv{fs:List FR}{f:FR}(h:f∈fs):OB f∈nW fs:=by unfold nW;exact fG h
theorem yI(xb mb:Nat)(t:T)(u:Value)(hu:u.oneCell' =true)(x:ByteArray)(d:ED)(dv:Value)(s:ES)(μ:Mem)(hd:IsV μ dv d.ins)(ao:d.ins.length≤100000)(az:DH s.names≤1000000):
 CEs 139 [.pointer (some ⟨xb,0,none⟩),.agg (cO t u).toArray,.string x,.agg (vF (d,dv)).toArray] xb mb s (rV t.at' x d s) μ:=by
 intro w fs hμ hR hO;have aj:=dW hO.diff;have od:=hd.one;obtain⟨ok,a⟩:=XW (P:=Tryz.prog) (et:=169) (by kernel_rfl) x fs;have z:=NT (x:=x) (fs:=fs) (i:=0)
 rw[←hR.1]at z;have a1:=aD9 x s.names;obtain⟨ds,lv,aw,ar,an,ay⟩:∃(ds:List (ED×Value)) (lv:Value),(match zZ x fs 0 with|some (_,f)=>f.v|none=>.slice none 0 0)=lv∧ds.map (·.1)=oA x s.names∧(∀p∈ds,IsV μ p.2 p.1.ins∧p.1.ins.length≤100000)∧(∀μc,MLe μ μc→(∀y∈nW fs,Bk.sh y μc)→DsV μc lv ds):=by
  cases r:zZ x fs 0 with
  | none=>
    rw[r]at z;exact⟨[],_,rfl,z.symm,fun p hp=>by simp at hp,fun μc _ _=>⟨none,0,rfl,Sl.nil _ _ _ _⟩⟩
  | some pf=>
    obtain⟨p,f⟩:=pf;rw[r]at z;obtain⟨-,h2,-⟩:=FN r;have hf:=aB h2;exact⟨f.ds,_,rfl,z.symm,hR.2 f hf,fun μc _ h=>DsV.nH (h _ (aKv hf))⟩
 rw[aw]at a;have ax:ds.length≤1000000:=by have g:=congrArg List.length ar;rw[aO]at g;omega
 have af:=fun(b:Nat) (w:World) (μc:Mem) (hw:MOk μc w) (hle:MLe μ μc) (av:∀y∈nW fs,Bk.sh y μc) (hc:gF μc ⟨b,0,none⟩ (vF (d,dv)))=>OK 164 [.pointer (some ⟨b,0,none⟩)] (fun o=>nM o d) ds lv w μc hw (by kernel_rfl) (ay μc hle av) (fun p hp=>(an p hp).1.one) ax (fun o w μ' h1 h2 h3=>PP o.1 d o.2 dv b w μ' h2 ((an o h1).1.mono (hle.trans h3)) (hd.mono (hle.trans h3)) (an o h1).2 ao (hc.mono h3));rw[ar]at af;generalize ab:rV t.at' x d s=s';unfold rV at ab;dsimp only at ab;generalize hq:((oA x s.names).any fun o=>nM o d)=q at af ab;rw[yM]at ab;have ag:=yM q t.at' 30 s;refine cI Tryz.func139 rfl Tryz.ntmps139 (by simp) hμ hO ?_;refine lT (aE1 xb mb s fs) ?_;try repeat' (first|refine KZ ?_|refine NB fun b=>?_)
 refine aZ 11 _ (by kernel_rfl) rfl (cP (aD aT)) ?_;all_goals(refine DD 0 ?_;refine DD 1 ?_;refine DD 2 ?_;refine DD 3 ?_;refine D1 4 ?_;refine DD 6 ?_;refine DD 8 ?_)
 all_goals(refine D3 5 ?_;(with_reducible apply jU);(iterate 4 exact rfl);(((with_reducible apply yZ);exact rfl;(repeat first|with_reducible exact fW|with_reducible apply pQ);exact rfl)))
 all_goals(refine D3 7 ?_;(with_reducible apply jU);(iterate 4 exact rfl);(((with_reducible apply oQ);(iterate 4 exact rfl);exact trivial;(repeat first|with_reducible exact sH|with_reducible apply sG);exact a)))
 all_goals(refine D3 9 ?_;refine D5 ?_;(((with_reducible apply F1 163);exact rfl;exact EN;exact fun w μc hw ak=>af _ w μc hw ak.le (fun y hy=>ak.own y (by repeat(first|exact hy|apply dF))) (LS ak.hd (fun j v hj=>sT hj))));refine D9 ?_)
 all_goals(refine D3 10 ?_;refine D5 ?_;(refine CF 106 ?_;refine jP 2 rfl rfl rfl EN rfl hR (rP xb mb t _ hu _ _ _ _) ?_;intro v1 μ1 i1 ah hR;dsimp only[aU,aY]);refine D9 ?_)
 all_goals refine D8 ?_
 try repeat' (refine KZ ?_)
 generalize iX q t.at' 30 s=s1 at ab hR ag⊢;refine lT (show _=_::_::Bk.inl ⟨xb,95,4,[(0,.map (some mb)),(1,.int .i64 (s1.regs:Int)),(2,.int .i64 s1.at'),(3,.int .i64 s1.e)]⟩::.mp ⟨mb,mkD i1 0,i1.length⟩::nW i1 from rfl) ?_;obtain⟨ok2,a⟩:=XW (P:=Tryz.prog) (et:=169) (by kernel_rfl) x i1;have c:=NT (x:=x) (fs:=i1) (i:=0);rw[←hR.1,ag]at c;have aa:=NX x i1 0 0;cases r:zZ x i1 0 with
 | some pf=>
   obtain⟨p,f⟩:=pf;rw[r]at a c aa;dsimp only[Option.map]at a c aa;obtain⟨-,ae,ai⟩:=FN r;rw[dK]at ae;have ap:=(List.getElem?_eq_some_iff.1 ae).1;have a6:f.ds.length≤1000000:=by have g:=congrArg List.length c;rw[aO]at g;omega
   refine rH (lG (F:=[_,_,_,_]) (aKx ae)) ?_;obtain⟨R,au⟩:∃R,(nW i1).eraseIdx p=R:=⟨_,rfl⟩;rw[au];dsimp only[aU,aY,OB];have e2:=aUr f.ds;have e3:∀v,(mkD i1 0).modify p (fun e=>{ e with key:=.string x,val:=v })=mkD (i1.set p ⟨x,v,f.ds++[(d,dv)]⟩) 0∧((mkD i1 0)[p]?).map (·.key)=some (.string x):=fun v=>aDz i1 0 p f ⟨x,v,f.ds++[(d,dv)]⟩ ae ai.symm;have aq:=(e3 undef).2;refine aZ 15 _ (by kernel_rfl) rfl (cP (aD (cP (aD aT)))) ?_;all_goals(refine DD 0 ?_;refine DD 1 ?_;refine D1 2 ?_;refine DD 3 ?_;refine DD 4 ?_;refine DD 5 ?_;refine DD 6 ?_;refine D1 7 ?_;refine DD 8 ?_;refine DD 9 ?_;refine DD 11 ?_)
   refine iZ 10 12 (by kernel_rfl) ?dr3_10 ?dr3_12
   case' dr3_10=>
    (((with_reducible apply jU);(iterate 4 exact rfl);(((with_reducible apply oQ);(iterate 4 exact rfl);exact trivial;(repeat first|with_reducible exact sH|with_reducible apply sG);exact a))))
    all_goals(refine D3 12 ?_;refine D5 ?_;refine NB fun b=>?_;refine D9 ?_)
    all_goals(refine D3 13 ?_;refine D5 ?_;(((with_reducible apply qA);(iterate 3 exact rfl);(repeat first|with_reducible exact fO|with_reducible apply gD);(iterate 6 exact rfl);(((with_reducible apply kB);exact rfl;(repeat with_reducible exact fW);exact rfl));exact rfl;exact gI (by(repeat first|with_reducible exact fZ|((with_reducible apply eW);(first|exact rfl|assumption))));omega;omega;intro v));refine D9 ?_)
    all_goals(refine D3 14 ?_;refine D5 ?_;(with_reducible apply NU);exact .inr rfl;(iterate 6 exact rfl);exact trivial;(repeat first|with_reducible exact uL|with_reducible apply wD);exact aa;exact aq;refine D9 ?_)
    all_goals refine D8 ?_
   case' dr3_12=>
    (refine D5 ?_;refine NB fun b=>?_;refine D9 ?_)
    all_goals(refine D3 10 ?_;(with_reducible apply jU);(iterate 4 exact rfl);(((with_reducible apply oQ);(iterate 4 exact rfl);exact trivial;(repeat first|with_reducible exact sH|with_reducible apply sG);exact a)))
    all_goals(refine D3 13 ?_;refine D5 ?_;(((with_reducible apply qA);(iterate 3 exact rfl);(repeat first|with_reducible exact fO|with_reducible apply gD);(iterate 6 exact rfl);(((with_reducible apply kB);exact rfl;(repeat with_reducible exact fW);exact rfl));exact rfl;exact gI (by(repeat first|with_reducible exact fZ|((with_reducible apply eW);(first|exact rfl|assumption))));omega;omega;intro v));refine D9 ?_)
    all_goals(refine D3 14 ?_;refine D5 ?_;(with_reducible apply NU);exact .inr rfl;(iterate 6 exact rfl);exact trivial;(repeat first|with_reducible exact uL|with_reducible apply wD);exact aa;exact aq;refine D9 ?_)
    all_goals refine D8 ?_
   all_goals refine gO (L' :=_::_::_::R) (eB (.refl _) (CM (.refl _) (CM (.refl _) (bY _ (bY _ (bY _ (gB _))))))) ?_
   all_goals refine KK (es' :=mkD (i1.set p ⟨x,v,f.ds++[(d,dv)]⟩) 0) (ck' :=(i1.set p ⟨x,v,f.ds++[(d,dv)]⟩).length) 2 rfl (e3 v).1 (by rw[fU]) ?_
   all_goals refine gJ (n' :=(f.ds++[(d,dv)]).length) (xs' :=(f.ds++[(d,dv)]).flatMap vF) 0 rfl (by simp) (by rw[cZ];rfl) ?_
   all_goals dsimp only[fT]
   all_goals refine nD (L' :=.inl ⟨xb,95,4,[(0,.map (some mb)),(1,.int .i64 (s1.regs:Int)),(2,.int .i64 s1.at'),(3,.int .i64 s1.e)]⟩::.mp ⟨mb,mkD (i1.set p ⟨x,v,f.ds++[(d,dv)]⟩) 0,(i1.set p ⟨x,v,f.ds++[(d,dv)]⟩).length⟩::nW (i1.set p ⟨x,v,f.ds++[(d,dv)]⟩)) (by rw[aKt,←au];exact zK (F:=[_,_]) _ (by rw[aKw];exact ap)) ?_
   all_goals exact gY (s:={ names:=wX x (oA x s.names++[d]) s.names,regs:=s1.regs,at' :=s1.at',e:=s1.e }) 0 (i1.set p ⟨x,v,f.ds++[(d,dv)]⟩) (.inr rfl) aj rfl rfl ab ⟨by
    show wX x (oA x s.names++[d]) s.names=_
    have g:=XB (v:=v) (ds:=f.ds++[(d,dv)]) (l:=oA x s.names++[d]) r (by rw[c,bJ];rfl);rw[dK,ai,←hR.1,ag]at g;exact g,fun f' al d' ad=>by
    rcases List.mem_or_eq_of_mem_set al with g|g
    ·exact hR.2 f' g d' ad
    ·subst g;rcases List.mem_append.1 ad with g|g
     ·exact hR.2 f (aB ae) d' g
     ·rw[aJ.1 g];exact⟨hd.mono ah,ao⟩⟩
 | none=>
   rw[r]at a c aa;dsimp only[Option.map]at a c aa;refine aZ 15 _ (by kernel_rfl) rfl (aD (cP (aD aT))) ?_;all_goals(refine DD 0 ?_;refine DD 1 ?_;refine D1 2 ?_;refine DD 3 ?_;refine DD 4 ?_;refine DD 5 ?_;refine DD 6 ?_;refine D1 7 ?_;refine DD 8 ?_;refine DD 9 ?_;refine DD 11 ?_)
   refine iZ 10 12 (by kernel_rfl) ?dr4_10 ?dr4_12
   case' dr4_10=>
    (((with_reducible apply jU);(iterate 4 exact rfl);(((with_reducible apply oQ);(iterate 4 exact rfl);exact trivial;(repeat first|with_reducible exact sH|with_reducible apply sG);exact a))))
    all_goals(refine D3 12 ?_;refine D5 ?_;refine NB fun b=>?_;refine D9 ?_)
    all_goals(refine D3 13 ?_;refine D5 ?_;(((with_reducible apply RP);(iterate 9 exact rfl);(((with_reducible apply kB);exact rfl;(repeat with_reducible exact fW);exact rfl));exact rfl;exact gI (by(repeat first|with_reducible exact fZ|((with_reducible apply eW);(first|exact rfl|assumption))));omega;omega;intro v));refine D9 ?_)
    all_goals(refine D3 14 ?_;refine D5 ?_;(with_reducible apply FY);exact .inr rfl;(iterate 6 exact rfl);exact trivial;(repeat first|with_reducible exact uL|with_reducible apply wD);exact aa;refine D9 ?_)
    all_goals refine D8 ?_
   case' dr4_12=>
    (refine D5 ?_;refine NB fun b=>?_;refine D9 ?_)
    all_goals(refine D3 10 ?_;(with_reducible apply jU);(iterate 4 exact rfl);(((with_reducible apply oQ);(iterate 4 exact rfl);exact trivial;(repeat first|with_reducible exact sH|with_reducible apply sG);exact a)))
    all_goals(refine D3 13 ?_;refine D5 ?_;(((with_reducible apply RP);(iterate 9 exact rfl);(((with_reducible apply kB);exact rfl;(repeat with_reducible exact fW);exact rfl));exact rfl;exact gI (by(repeat first|with_reducible exact fZ|((with_reducible apply eW);(first|exact rfl|assumption))));omega;omega;intro v));refine D9 ?_)
    all_goals(refine D3 14 ?_;refine D5 ?_;(with_reducible apply FY);exact .inr rfl;(iterate 6 exact rfl);exact trivial;(repeat first|with_reducible exact uL|with_reducible apply wD);exact aa;refine D9 ?_)
    all_goals refine D8 ?_
   all_goals refine gO (L' :=_::_::_::nW i1) (fA (.refl _) (CM (.refl _) (CM (.refl _) (bY _ (bY _ (bY _ (gB _))))))) ?_
   all_goals refine KK (es' :=mkD (i1++[(⟨x,v,[(d,dv)]⟩:FR)]) 0) (ck' :=(i1++[(⟨x,v,[(d,dv)]⟩:FR)]).length) 2 rfl (by rw[aD0,bG]) (by simp) ?_
   all_goals dsimp only[fT]
   all_goals refine nD (L' :=.inl ⟨xb,95,4,[(0,.map (some mb)),(1,.int .i64 (s1.regs:Int)),(2,.int .i64 s1.at'),(3,.int .i64 s1.e)]⟩::.mp ⟨mb,mkD (i1++[(⟨x,v,[(d,dv)]⟩:FR)]) 0,(i1++[(⟨x,v,[(d,dv)]⟩:FR)]).length⟩::nW (i1++[(⟨x,v,[(d,dv)]⟩:FR)])) (by rw[aKy];exact dZ _ (_::_::nW i1)) ?_
   all_goals exact gY (s:={ names:=wX x (oA x s.names++[d]) s.names,regs:=s1.regs,at' :=s1.at',e:=s1.e }) 0 (i1++[(⟨x,v,[(d,dv)]⟩:FR)]) (.inr rfl) aj rfl rfl ab ⟨by
    show wX x (oA x s.names++[d]) s.names=_
    have g:=XC (v:=v) (ds:=[(d,dv)]) (l:=oA x s.names++[d]) r (by rw[c];rfl);rw[←hR.1,ag]at g;exact g,fun f' al d' ad=>by
    rcases List.mem_append.1 al with g|g
    ·exact hR.2 f' g d' ad
    ·rw[aJ.1 g]at ad;rw[aJ.1 ad];exact⟨hd.mono ah,ao⟩⟩
end Go.Proofs.YtlllalmkkaolfaaGreatDoor
namespace Go.Vcg
open Go.RowKit Go.MapKept
def kvE(e:MapEntry):Value×Value:=(e.key,e.val)
def pZ{κ α:Type}[DecidableEq κ](k:κ):List (κ×α)→Nat→Option (Nat×α)
 |[],_=>none
 |(a,x)::r,i=>if k=a then some (i,x)else pZ k r (i+1)
def gM{κ α:Type}[DecidableEq κ](k:κ)(M:List (κ×α)):Option α:=(pZ k M 0).map (·.2)
def iS{κ α:Type}[DecidableEq κ](k:κ)(v:α):List (κ×α)→List (κ×α)
 |[]=>[(k,v)]
 |(a,x)::r=>if k=a then(a,v)::r else(a,x)::iS k v r
def tJ{κ α:Type}[DecidableEq κ](k:κ):List (κ×α)→List (κ×α)
 |[]=>[]
 |(a,x)::r=>if k=a then r else(a,x)::tJ k r
section
variable{κ α:Type}[DecidableEq κ]
theorem tF{k:κ}:∀{M:List (κ×α)} {i p:Nat} {x:α},pZ k M i=some (p,x)→i≤p∧M[p-i]? =some (k,x)
 |[],_,_,_,h=>by cases h
 | (a,y)::r,i,p,x,h=>by
   unfold pZ at h;split at h
   ·rename_i hk;cases h;subst hk;exact⟨aC _,by rw[cK];rfl⟩
   ·obtain⟨h1,h2⟩:=tF h;refine⟨by omega,?_⟩;rw[show p-i=(p- (i+1))+1 by omega,bW];exact h2
theorem MH{k:κ}{v:α}:∀{M:List (κ×α)} {i p:Nat} {x:α},pZ k M i=some (p,x)→iS k v M=M.set (p-i) (k,v)
 |[],_,_,_,h=>by cases h
 | (a,y)::r,i,p,x,h=>by
   unfold pZ at h;unfold iS;split at h
   ·rename_i hk;cases h;rw[if_pos hk,cK,jI,hk]
   ·rename_i hk;obtain⟨h1,-⟩:=tF h;rw[if_neg hk,MH h,show p-i=(p- (i+1))+1 by omega,kX]
theorem MI{k:κ}{v:α}:∀{M:List (κ×α)} {i:Nat},pZ k M i=none→iS k v M=M++[(k,v)]
 |[],_,_=>rfl
 | (a,y)::r,i,h=>by
   unfold pZ at h;unfold iS;split at h
   ·cases h
   ·rename_i hk;rw[if_neg hk,MI h];rfl
theorem ZQ{k:κ}:∀{M:List (κ×α)} {i p:Nat} {x:α},pZ k M i=some (p,x)→tJ k M=M.eraseIdx (p-i)
 |[],_,_,_,h=>by cases h
 | (a,y)::r,i,p,x,h=>by
   unfold pZ at h;unfold tJ;split at h
   ·rename_i hk;cases h;rw[if_pos hk,cK];rfl
   ·rename_i hk;obtain⟨h1,-⟩:=tF h;rw[if_neg hk,ZQ h,show p-i=(p- (i+1))+1 by omega];rfl
theorem SF{k:κ}:∀{M:List (κ×α)} {i:Nat},pZ k M i=none→tJ k M=M
 |[],_,_=>rfl
 | (a,y)::r,i,h=>by
   unfold pZ at h;unfold tJ;split at h
   ·cases h
   ·rename_i hk;rw[if_neg hk,SF h]
end
def MpI{α:Type}(enc:α→Value)(es:List MapEntry)(M:List (Int×α)):Prop:=es.map kvE=M.map fun p=>(Value.int .i64 p.1,enc p.2)
abbrev kP(p:Int×Int):List Value:=[.int .i64 p.1,.int .i64 p.2]
def MpP(es:List MapEntry)(M:List ((Int×Int)×Int)):Prop:=es.map kvE=M.map fun p=>(Value.agg (kP p.1).toArray,Value.int .i64 p.2)
theorem UT{α:Type}{enc:α→Value}(k:Int):∀{es:List MapEntry} {M:List (Int×α)} (i:Nat),MpI enc es M→Instr.findNow (.int .i64) (.int .i64 k) es i=some ((pZ k M i).map fun p=>(p.1,enc p.2))
 |[],[],i,_=>by simp[Instr.findNow,pZ]
 |[],_::_,_,h=>by simp[MpI]at h
 |_::_,[],_,h=>by simp[MpI]at h
 | e::es,(a,x)::M,i,h=>by
   obtain⟨ek,ev,st⟩:=e;simp only[MpI,aL,jB,kvE,cV]at h;obtain⟨⟨rfl,rfl⟩,h2⟩:=h;have ih:=UT k (enc:=enc) (M:=M) (i+1) h2;unfold Instr.findNow pZ;by_cases hk:k=a
   ·subst hk;simp[Instr.sameNow]
   ·have hb:(k==a)=false:=beq_eq_false_iff_ne.2 hk;simp[Instr.sameNow,hk,ih,hb]
theorem aB9(k:Int×Int):∀{es:List MapEntry} {M:List ((Int×Int)×Int)} (i:Nat),MpP es M→uY (kP k) es i=some ((pZ k M i).map fun p=>(p.1,Value.int .i64 p.2))
 |[],[],i,_=>by simp[uY,pZ]
 |[],_::_,_,h=>by simp[MpP]at h
 |_::_,[],_,h=>by simp[MpP]at h
 | e::es,(a,x)::M,i,h=>by
   obtain⟨ek,ev,st⟩:=e;obtain⟨k1,k2⟩:=k;obtain⟨a1,a2⟩:=a;simp only[MpP,aL,jB,kvE,cV]at h;obtain⟨⟨rfl,rfl⟩,h2⟩:=h;have ih:=aB9 (k1,k2) (M:=M) (i+1) h2;have e1:FG (kP (k1,k2)) (kP (a1,a2))=true:=rfl;have e2:GM (kP (k1,k2)) (kP (a1,a2))=decide ((k1,k2)=(a1,a2)):=by simp[GM,eqV,cV,Bool.decide_and]
   unfold uY pZ;dsimp only;simp only[e1,e2,ih];by_cases hk:(k1,k2)=(a1,a2)
   ·simp[hk]
   ·simp[hk]
theorem aJc{P:Program}{et:TypeId}{α:Type}{enc:α→Value}{z:Value}(a:oL P et=some z)(k:Int){es:List MapEntry}{M:List (Int×α)}(h:MpI enc es M):∃ok,qU P et (Instr.findNow (.int .i64) (.int .i64 k) es 0)=some ((match gM k M with|some x=>enc x|none=>z),ok):=by
 rw[UT k 0 h];unfold gM;cases pZ k M 0 with
 |none=>exact⟨false,by simp[qU,a]⟩
 |some p=>exact⟨true,rfl⟩
theorem aRq{P:Program}{et:TypeId}(a:oL P et=some (.int .i64 0))(k:Int×Int){es:List MapEntry}{M:List ((Int×Int)×Int)}(h:MpP es M):qU P et (uY (kP k) es 0)=some (.int .i64 ((gM k M).getD 0),(gM k M).isSome):=by
 rw[aB9 k 0 h];unfold gM;cases pZ k M 0 with
 |none=>simp[qU,a]
 |some p=>rfl
theorem aJk{es:List MapEntry}{p:Nat}{k v:Value}:(es.modify p fun e=>{ e with key:=k,val:=v }).map kvE=if p<es.length then(es.map kvE).set p (k,v)else es.map kvE:=by
 apply eP;intro i;rw[aX,kF];by_cases hlt:p<es.length
 ·rw[if_pos hlt,jX,aO,aX];by_cases a:p=i
  ·subst a;rw[if_pos rfl,if_pos hlt,aA hlt];simp[kvE]
  ·rw[if_neg a];cases es[i]? <;>simp[a]
 ·rw[if_neg hlt,aX];by_cases a:p=i
  ·subst a;rw[dQ (by omega)];rfl
  ·cases es[i]? <;>simp[a]
section
variable{α:Type}{enc:α→Value}
theorem MpI.len{es:List MapEntry}{M:List (Int×α)}(h:MpI enc es M):es.length=M.length:=by
 have:=congrArg List.length h;simpa using this
theorem MpP.len{es:List MapEntry}{M:List ((Int×Int)×Int)}(h:MpP es M):es.length=M.length:=by
 have:=congrArg List.length h;simpa using this
theorem MpI.key{es:List MapEntry}{M:List (Int×α)}{p:Nat}{k:Int}{x:α}(h:MpI enc es M)(a:M[p]? =some (k,x)):(es[p]?).map (·.key)=some (.int .i64 k):=by
 have h1:=congrArg (fun l=>l[p]?) h;simp only[aX,a,fC]at h1;cases he:es[p]? with
 |none=>rw[he]at h1;cases h1
 | some e=>
   rw[he]at h1;simp only[fC,aW,kvE,cV]at h1⊢;exact h1.1
theorem MpP.key{es:List MapEntry}{M:List ((Int×Int)×Int)}{p:Nat}{k:Int×Int}{x:Int}(h:MpP es M)(a:M[p]? =some (k,x)):(es[p]?).map (·.key)=some (.agg (kP k).toArray):=by
 have h1:=congrArg (fun l=>l[p]?) h;simp only[aX,a,fC]at h1;cases he:es[p]? with
 |none=>rw[he]at h1;cases h1
 | some e=>
   rw[he]at h1;simp only[fC,aW,kvE,cV]at h1⊢;exact h1.1
theorem MpI.set{es:List MapEntry}{M:List (Int×α)}{p:Nat}{k:Int}{x y:α}(h:MpI enc es M)(a:pZ k M 0=some (p,x)):MpI enc (es.modify p fun e=>{ e with key:=.int .i64 k,val:=enc y }) (iS k y M):=by
 have hg:=tF a;rw[dK]at hg;have hlt:=(List.getElem?_eq_some_iff.1 hg.2).1;unfold MpI at*;rw[aJk,if_pos (by rw[MpI.len (enc:=enc) (M:=M) h];exact hlt),h,MH a,dK,jS]
theorem MpI.app{es:List MapEntry}{M:List (Int×α)}{k:Int}{y:α}{st:Nat}(h:MpI enc es M)(a:pZ k M 0=none):MpI enc (es++[MapEntry.mk (.int .i64 k) (enc y) st]) (iS k y M):=by
 unfold MpI at*;rw[bJ,h,MI a,bJ];rfl
theorem MpP.set{es:List MapEntry}{M:List ((Int×Int)×Int)}{p:Nat}{k:Int×Int}{x y:Int}(h:MpP es M)(a:pZ k M 0=some (p,x)):MpP (es.modify p fun e=>{ e with key:=.agg (kP k).toArray,val:=.int .i64 y }) (iS k y M):=by
 have hg:=tF a;rw[dK]at hg;have hlt:=(List.getElem?_eq_some_iff.1 hg.2).1;unfold MpP at*;rw[aJk,if_pos (by rw[MpP.len (M:=M) h];exact hlt),h,MH a,dK,jS]
theorem MpP.app{es:List MapEntry}{M:List ((Int×Int)×Int)}{k:Int×Int}{y:Int}{st:Nat}(h:MpP es M)(a:pZ k M 0=none):MpP (es++[MapEntry.mk (.agg (kP k).toArray) (.int .i64 y) st]) (iS k y M):=by
 unfold MpP at*;rw[bJ,h,MI a,bJ];rfl
theorem wI{β γ:Type}(g:β→γ):∀(l:List β) (i:Nat),(l.eraseIdx i).map g=(l.map g).eraseIdx i
 |[],_=>rfl
 |x::r,0=>rfl
 |x::r,i+1=>by simp[List.eraseIdx,wI g r i]
theorem MpI.del{es:List MapEntry}{M:List (Int×α)}{p:Nat}{k:Int}{x:α}(h:MpI enc es M)(a:pZ k M 0=some (p,x)):MpI enc (es.eraseIdx p) (tJ k M):=by
 unfold MpI at*;rw[wI,h,ZQ a,dK,wI]
end
section
variable{P:Program}{X:Ctx}{ops:Array Oper}{Q:Exit→Act→World→Prop}{rest:List Oper}{μ:Mem}{l:bS}{L:List Bk}{w:World}{o:Oper}{d:Nat}
variable{ty:TypeId}{pos:String}{af:Array Edge}{gd:Option (Nat×Bool)}{ds:Option Nat}
theorem LD{t kt et:TypeId}{m k:Operand}{b ck:Nat}{es:List MapEntry}{xs:List Value}{v:Value}{ok:Bool}(hm:ev l m=some (.map (some b)))(hk:ev l k=some (.agg xs.toArray))(ht:P.underlying t=some (.map kt et))(e:pP P kt xs=true)
 (hu:InM L b ⟨b,es,ck⟩)(hf:qU P et (uY xs es 0)=some (v,ok)):Val P μ l L ⟨ds,.lookup t m k true,ty,pos,af,gd⟩ (.tuple #[v,.bool ok]):=fun a w hs=>by
 obtain⟨i,hi,_⟩:=hu;have hb:w.heap[b]? =some (.map es.toArray ck):=hs.own _ (fB hi);have e1:=hs.eval hm;have e2:=hs.eval hk;generalize a.eval=ρ at e1 e2;simp[execOp,e1,e2,JN (c:=true) ht e hb hf]
theorem DL{t kt et:TypeId}{b ck i:Nat}{es:List MapEntry}{xs:List Value}{v old:Value}(ht:P.underlying t=some (.map kt et))(a:pP P kt xs=true)(c:Instr.sameBits 10000 (.agg xs.toArray) (.agg xs.toArray)=true)
 (hb:w.heap[b]? =some (.map es.toArray ck))(hf:uY xs es 0=some (some (i,old)))(he:(es[i]?).map (·.key)=some (.agg xs.toArray)):(Instr.mapUpdate t (.map (some b)) (.agg xs.toArray) v).run P w=.ok () { w with heap:=w.heap.setIfInBounds b (.map (es.modify i fun e=>{ e with key:=.agg xs.toArray,val:=v }).toArray ck) }:=by
 have h0:=uZ (w:=w) a hf;have h2:=fun e=>rY (w:=w) e a;have h1:(((es.toArray[i]?).map (·.key)).getD (.agg xs.toArray))=.agg xs.toArray:=by rw[fM,he];rfl
 have h3:(Instr.keyThatStays (.agg xs.toArray) (.agg xs.toArray)).run P w=.ok (.agg xs.toArray) w:=by simp[Instr.keyThatStays,c]
 simp[Instr.mapUpdate,run_underlying ht,MapKept.run_getObj_map hb,h0,h2,MapKept.run_setObj_map _ hb];rw[fM]at h1;simp only[h1];rw[h3];simp[MapKept.run_setObj_map _ hb]
end
end Go.Vcg
