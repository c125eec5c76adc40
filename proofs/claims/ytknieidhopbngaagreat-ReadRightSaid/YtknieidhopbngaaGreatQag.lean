/- The lexer of package token: one, next, Next: their contracts. -/
import Derived.Test.YtknieidhopbngaaGreatQaf
import Derived.Test.YtknieidhopbngaaGreatQad
set_option maxRecDepth 20000
set_option maxHeartbeats 2000000
namespace Go.Proofs.YtknieidhopbngaaGreat
open Go.RowKit Go.Vcg
theorem VC(c:UInt8)(r:List UInt8)(tail:Bool):sV (c::r) tail=
 if zZ c.toNat=true then .ok ⟨if Lib.contains CW ([32]++(c::r).take (fN idI (c::r))++[32])then 2 else 1,fN idI (c::r),0,(c::r).take (fN idI (c::r)),false⟩
 else if mV c.toNat=true then GD (c::r)else if c=34∨c=39 then mE c r else if c=96∨(c=125∧tail=true)then kA c r else sP (c::r):=by
 rw[sV];simp only[on8];split
 ·rfl
 ·split
  ·unfold GD;rcases BO (c::r)with e|⟨n,m⟩<;>rfl
  ·split
   ·unfold mE;rcases qK c 0 r with e|⟨n,m⟩<;>rfl
   ·split
    ·unfold kA;rcases pK 0 r with e|⟨n,m⟩<;>rfl
    ·rfl
attribute [local irreducible] G GC GQ GA dV Calls IntKind.wrap Int.decLt Int.decLe
theorem VA(s:ByteArray)(hs:s.size≤65536)(k:Nat)(hk:k≤s.size)(tail:Bool)(w:World)(μ:Mem)(hμ:MOk μ w)(r:lE μ):
 aO 64 #[.string s,.int .i64 k,.bool tail] w (.tuple #[oN (sO k (sV ((bl s).drop k) tail)),.int .i64 (EY (sV ((bl s).drop k) tail))]):=by
 refine aQ Tryz.func64 rfl Tryz.ntmps64 (by simp) hμ ?_;by_cases l:k<s.size
 ·obtain ⟨c,q,d⟩:=sI l;have e34:bAt s k=34↔c=34:=oE d rfl;have e39:bAt s k=39↔c=39:=oE d rfl;have e96:bAt s k=96↔c=96:=oE d rfl;have e125:bAt s k=125↔c=125:=oE d rfl;have i:=VC c ((bl s).drop (k+1)) tail;rw[←kO q,←d]at i;have hg:True:=trivial;cases hl:zZ (bAt s k)with
  | true=>
    rw[hl,if_pos rfl]at i;rw[i];try repeat' (first|refine KO ?_|refine K2 98 (fun w μc hw a=>lD _ hl (fQ _ _) (fR _ _) w μc hw) ?_|refine K2 99 (fun w μc hw a=>PH s hs k (by omega) w μc hw (r.mono a)) ?_|(refine KV (b:=by exact U2 k) (c:=?_))|refine KZ ?_|refine NB fun b=>?_)
    exact eY rfl (RG 0 rfl rfl rfl rfl rfl) (aN rfl) rfl rfl
  | false =>
    rw[hl,if_neg (by simp)]at i;clear hg;cases hg:mV (bAt s k)with
    | true=>
      rw[hg,if_pos rfl]at i;rw[i];try repeat' (first|refine KO ?_|refine K2 98 (fun w μc hw a=>lD _ hl (fQ _ _) (fR _ _) w μc hw) ?_|refine K2 100 (fun w μc hw a=>eZ _ hg (fQ _ _) (fR _ _) w μc hw) ?_|refine K2 101 (fun w μc hw a=>LY s hs k l w μc hw) ?_|(refine KV (b:=by exact U2 k) (c:=?_))|refine KZ ?_|refine NB fun b=>?_)
      exact eY rfl (RG 0 rfl rfl rfl rfl rfl) (aN rfl) rfl rfl
    | false=>
      rw[hg,if_neg (by simp)]at i;by_cases j:c=34∨c=39
      ·rw[if_pos j]at i;rw[i];have o:(bAt s k=34)∨(¬bAt s k=34∧bAt s k=39):=by
        rcases j with h|h
        ·exact .inl (e34.2 h)
        ·have:=e39.2 h;right;omega
       rcases o with g|⟨g,g'⟩
       all_goals
        try repeat' (first|refine KO ?_|refine K2 98 (fun w μc hw a=>lD _ hl (fQ _ _) (fR _ _) w μc hw) ?_|refine K2 100 (fun w μc hw a=>eZ _ hg (fQ _ _) (fR _ _) w μc hw) ?_|refine K2 102 (fun w μc hw a=>LO s hs k l c d w μc hw) ?_|(refine KV (b:=by exact U2 k) (c:=?_))|refine KZ ?_|refine NB fun b=>?_)
        exact eY rfl (RG 0 rfl rfl rfl rfl rfl) (aN rfl) rfl rfl
      ·rw [if_neg j]at i;have n34:¬bAt s k=34:=fun h=>j (.inl (e34.1 h));have n39:¬bAt s k=39:=fun h=>j (.inr (e39.1 h));by_cases hp:c=96∨(c=125∧tail=true)
       ·rw[if_pos hp]at i;rw[i];have p:(bAt s k=96)∨(¬bAt s k=96∧bAt s k=125∧tail=true):=by
         rcases hp with h|⟨h,v⟩
         ·exact .inl (e96.2 h)
         ·have:=e125.2 h;right;exact⟨by omega,this,v⟩
        rcases p with g|⟨g,g',rfl⟩
        all_goals
         try repeat' (first|refine KO ?_|refine K2 98 (fun w μc hw a=>lD _ hl (fQ _ _) (fR _ _) w μc hw) ?_|refine K2 100 (fun w μc hw a=>eZ _ hg (fQ _ _) (fR _ _) w μc hw) ?_|refine K2 103 (fun w μc hw a=>PD s hs k l c d w μc hw) ?_|(refine KV (b:=by exact U2 k) (c:=?_))|refine KZ ?_|refine NB fun b=>?_)
         exact eY rfl (RG 0 rfl rfl rfl rfl rfl) (aN rfl) rfl rfl
       ·rw [if_neg hp]at i;rw[i];have n96:¬bAt s k=96:=fun h=>hp (.inl (e96.1 h));cases tail with
        | true=>
          have n125:¬bAt s k=125:=fun h=>hp (.inr ⟨e125.1 h,rfl⟩);try repeat' (first|refine KO ?_|refine K2 98 (fun w μc hw a=>lD _ hl (fQ _ _) (fR _ _) w μc hw) ?_|refine K2 100 (fun w μc hw a=>eZ _ hg (fQ _ _) (fR _ _) w μc hw) ?_|refine K2 104 (fun w μc hw a=>DJ s hs k l w μc hw (r.mono a)) ?_|(refine KV (b:=by exact U2 k) (c:=?_))|refine KZ ?_|refine NB fun b=>?_)
          exact eY rfl (RG 0 rfl rfl rfl rfl rfl) (aN rfl) rfl rfl
        | false=>
          by_cases n125:bAt s k=125;all_goals
           try repeat' (first|refine KO ?_|refine K2 98 (fun w μc hw a=>lD _ hl (fQ _ _) (fR _ _) w μc hw) ?_|refine K2 100 (fun w μc hw a=>eZ _ hg (fQ _ _) (fR _ _) w μc hw) ?_|refine K2 104 (fun w μc hw a=>DJ s hs k l w μc hw (r.mono a)) ?_|(refine KV (b:=by exact U2 k) (c:=?_))|refine KZ ?_|refine NB fun b=>?_)
           exact eY rfl (RG 0 rfl rfl rfl rfl rfl) (aN rfl) rfl rfl
 ·rw[oA (by omega),sV];have u:k=s.size:=by omega
  have hl:True:=trivial;have hg:True:=trivial;try repeat' (first|refine KZ ?_|refine NB fun b=>?_)
  exact eY rfl (RG 0 rfl rfl rfl rfl rfl) (aN rfl) rfl rfl
end Go.Proofs.YtknieidhopbngaaGreat
namespace Go.Vcg
open Go.RowKit
section
variable{P:Program}{μ:Mem}{l:bG}{L:List Bk}{w:World}
theorem OO{fn:Func}{n:Nat}{r1 r2 r3:ResultVar}{v1 v1' v2 v2' v3 v3' :Value}{μ0:Mem}(hr:fn.results= #[r1,r2,r3])(h1:RV P μ l L r1 v1')(h2:RV P μ l L r2 v2')(h3:RV P μ l L r3 v3')(e1:v1' =v1)(e2:v2' =v2)(e3:v3' =v3):
 GQ ⟨w,μ0,[],n⟩ (bodyPost P fn (fun e w' =>e=.returned (.tuple #[v1,v2,v3])∧Below w.heap.size w w')) .ret μ l L:=
 nH (rs:=[r1,r2,r3]) (vs:=[v1',v2',v3']) hr (eN h1 (eN h2 (eN h3 jW))) rfl (by rw[e1,e2,e3])
end
end Go.Vcg
namespace Go.Proofs.YtknieidhopbngaaGreat
open Go.RowKit Go.Vcg
theorem IZ{q:UInt8}:∀{xs:List UInt8} {k:Nat} {e:Int},qK q k xs=.error e→e=8∨e=21∨e=22
 |[],k,e,h=>by simp[qK]at h;exact .inl h.symm
 | b::r,k+1,e,h=>by
   rw[qK]at h;unfold xF at h;split at h
   ·cases h
   ·rename_i e' hr;cases h;exact IZ hr
 | b :: r,0,e,h=>by
   rw[qK]at h;split at h
   ·cases h
   ·split at h
    ·cases h;exact .inr (.inr rfl)
    ·split at h
     ·unfold oK at h;split at h
      ·cases h
      ·rename_i e' hr;cases h;exact IZ hr
     ·split at h
      ·rename_i e' hr;cases h;rcases vW hr with h|h
       ·exact .inl h
       ·exact .inr (.inl h)
      ·unfold oK at h;split at h
       ·cases h
       ·rename_i e' hr;cases h;exact IZ hr
theorem JD:∀{xs:List UInt8} {k:Nat} {e:Int},pK k xs=.error e→e=8∨e=21
 |[],k,e,h=>by simp[pK]at h;exact .inl h.symm
 | b::r,k+1,e,h=>by
   rw[pK]at h;unfold xF at h;split at h
   ·cases h
   ·rename_i e' hr;cases h;exact JD hr
 | b ::r,0,e,h=>by
   rw[pK]at h;split at h
   ·cases h
   ·split at h
    ·unfold oK at h;split at h
     ·cases h
     ·rename_i e' hr;cases h;exact JD hr
    ·split at h
     ·rename_i e' hr;cases h;exact vW hr
     ·unfold oK at h;split at h
      ·cases h
      ·rename_i e' hr;cases h;exact JD hr
theorem LX{xs:List UInt8}{tail:Bool}{e:Int}(h:sV xs tail=.error e):e≠0:=by
 unfold sV at h;split at h
 ·cases h
 ·split at h
  ·cases h
  ·split at h
   ·split at h
    ·rename_i e' hn;cases h;unfold BO at hn;split at hn
     ·cases hn;omega
     ·split at hn
      ·cases hn;omega
      ·cases hn
    ·cases h
   ·split at h
    ·split at h
     ·rename_i e' hn;cases h;have:=IZ hn;omega
     ·cases h
    ·split at h
     ·split at h
      ·rename_i e' hn;cases h;have:=JD hn;omega
      ·cases h
     ·split at h
      ·cases h;omega
      ·cases h
def fW(k:Nat)(xs:List UInt8)(tail:Bool):Tok:=if(jA 0 false xs).2.2=true then match sV (xs.drop (jA 0 false xs).1) tail with
    |.ok t=>{ BK (k+ (jA 0 false xs).1) t with line:=(jA 0 false xs).2.1 }
    |.error _=>nC
 else nC
def rT(xs:List UInt8)(tail:Bool):Int:=if(jA 0 false xs).2.2=true then EY (sV (xs.drop (jA 0 false xs).1) tail)else 8
theorem rW:∀(xs:List UInt8) (k:Nat) (ln:Bool),k≤xs.length→(jA k ln xs).1≤xs.length
 |[],k,ln,_=>by cases k<;>simp[jA]
 | b::r,k+1,ln,h=>by rw[jA];have:=rW r k ln (by simpa using h);simp only[pR,aF];omega
 | b :: r,0,ln,_=>by
   rw[jA];split
   ·have:=rW r 0 (ln||on8 rP b) (by omega);simp only[pR,aF];omega
   ·split
    ·have:=rW r (fN yU r) ln (rF _ _);simp only[pR,aF];omega
    ·split
     ·split
      ·simp
      ·rename_i h3;have a:=Lib.index_room (r.drop 1) [42,47] (by omega);have:=rW r ((Lib.index (r.drop 1) [42,47]).toNat+3) (ln||((r.drop 1).take (Lib.index (r.drop 1) [42,47]).toNat).any (on8 rP)) (by
        simp only[bC,aF,aL]at a;omega)
       simp only[pR,aF];omega
     ·simp
attribute [local irreducible] G GC GQ GA dV Calls IntKind.wrap Int.decLt Int.decLe
theorem VF(s:ByteArray)(hs:s.size≤65536)(k:Nat)(hk:k≤s.size)(tail:Bool)(w:World)(μ:Mem)(hμ:MOk μ w)(d:lE μ):
 aO 39 #[.string s,.int .i64 k,.bool tail] w (.tuple #[oN (fW k ((bl s).drop k) tail),.int .i64 ((k+ (jA 0 false ((bl s).drop k)).1:Nat):Int),.int .i64 (rT ((bl s).drop k) tail)]):=by
 refine aQ Tryz.func39 rfl Tryz.ntmps39 (by simp) hμ ?_;have c:=ZK s hs k hk;have hle:=rW ((bl s).drop k) 0 false (by omega);rw[bC,dU]at hle;have i:∀g,jA 0 false ((bl s).drop k)=g→fW k ((bl s).drop k) tail=(if g.2.2=true then match sV (((bl s).drop k).drop g.1) tail with
  |.ok t=>{ BK (k+g.1) t with line:=g.2.1 }
  |.error _=>nC
 else nC):=fun g h=>by rw[←h];rfl
 have hE:∀g,jA 0 false ((bl s).drop k)=g→rT ((bl s).drop k) tail=if g.2.2=true then EY (sV (((bl s).drop k).drop g.1) tail)else 8:=fun g h=>by rw[←h];rfl
 generalize hg:jA 0 false ((bl s).drop k)=g at c hle⊢;rw[i g hg,hE g hg];clear i hE;obtain⟨m,ln,ok⟩:=g;simp only at hle⊢;have hone:=VA s hs (k+m) (by omega) tail;rw[cF];cases ok with
 | false=>
   rw[if_neg (by simp),if_neg (by simp)];try repeat' (first|refine KO ?_|refine K2 63 (fun w μc hw a=>c w μc hw (d.mono a)) ?_|refine KZ ?_|refine NB fun b=>?_)
   exact OO rfl (RG 0 rfl rfl rfl rfl rfl) (aN rfl) (aN rfl) rfl rfl rfl
 | true=>
   rw[if_pos rfl,if_pos rfl];generalize hr:sV ((bl s).drop (k+m)) tail=r at hone;rcases r with e|t
   ·have j:¬EY (Except.error e:Except Int T1)=0:=LX hr;try repeat' (first|refine KO ?_|refine K2 63 (fun w μc hw a=>c w μc hw (d.mono a)) ?_|refine K2 64 (fun w μc hw a=>hone w μc hw (d.mono a)) ?_|refine KZ ?_|refine NB fun b=>?_)
    exact OO rfl (RG 1 rfl rfl rfl rfl rfl) (aN rfl) (aN rfl) rfl rfl rfl
   ·try repeat' (first|refine KO ?_|refine K2 63 (fun w μc hw a=>c w μc hw (d.mono a)) ?_|refine K2 64 (fun w μc hw a=>hone w μc hw (d.mono a)) ?_|refine KZ ?_|refine NB fun b=>?_)
    exact OO rfl (RG 1 rfl rfl rfl rfl rfl) (aN rfl) (aN rfl) rfl rfl rfl
end Go.Proofs.YtknieidhopbngaaGreat
namespace Go.Vcg
open Go.RowKit
section
variable{P:Program}{X:Ctx}{Q:Exit→Act→World→Prop}{μ:Mem}{l:bG}{L:List Bk}{a:Act}{w:World}
theorem St.aBc(h:St X μ l L a w){i:Nat}{g n cap e s:Nat}{xs ys:List Value}(k:Nat)(hi:jO L i=some (.inr ⟨.slice (some ⟨g,0,none⟩) n cap,e,s,n,xs⟩))(hk:k≤n)(o:ys=xs.take (k*s)):
 St X μ l (nQ L i (.inr ⟨.slice (some ⟨g,0,none⟩) k cap,e,s,k,ys⟩)) a w:=by
 refine h.upd (w' :=w) hi rfl rfl rfl (aP _) (fun _ _ _=>rfl) ?_ (fun b hb=>.inl hb);have c:w.ownsRow 0 e s (.slice (some ⟨g,0,none⟩) n cap) n xs:=h.own _ (fB hi);subst o;have d:k*s≤n*s:=fS _ hk;refine⟨by show(xs.take (k*s)).length=k*s;rw[bZ,c.1];omega,?_⟩;rcases c.2 with⟨h1,_⟩|⟨g',cap',cur,h1,j,p,h3,h4,h5,h6⟩
 ·cases h1
 ·cases h1;refine .inr ⟨g,cap,cur,rfl,j,p,(by show k≤cap;omega),h4,h5,?_⟩;show cur.toList.take (k*s)=xs.take (k*s)
  rw[←h6,List.take_take,jY d]
theorem EM{c:Exit}{i:Nat}{g n cap e s:Nat}{xs:List Value}(ys:List Value)(k:Nat)(hi:jO L i=some (.inr ⟨.slice (some ⟨g,0,none⟩) n cap,e,s,n,xs⟩))(hk:k≤n)(b:ys=xs.take (k*s))
 (h:GQ X Q c μ l (nQ L i (.inr ⟨.slice (some ⟨g,0,none⟩) k cap,e,s,k,ys⟩))):GQ X Q c μ l L:=fun a w hs=>h a w (hs.aBc k hi hk b)
theorem qL{p:Operand}{t e e' :TypeId}{v:Value}{s n:Nat}{xs:List Value}{ty:TypeId}{pos:String}{af:Array Edge}{gd:Option (Nat×Bool)}{ds:Option Nat}(i:Nat)(ht:P.underlying t=some (.slice e))(hi:jO L i=some (.inr ⟨v,e',s,n,xs⟩))(hp:ev l p=some v):
 Val P μ l L ⟨ds,.call { callee:=.builtin .len,args:= #[p],argTypes:= #[t] },ty,pos,af,gd⟩ (.int .i64 n):=UE i ht hi hp
theorem vE{fn:Func}{n:Nat}{r1 r2 r3:ResultVar}{v1 v2 v3:Value}{μ0:Mem}{Post:Mem→Value→Prop}{w:World}(hr:fn.results= #[r1,r2,r3])(h1:RV P μ l L r1 v1)(h2:RV P μ l L r2 v2)(h3:RV P μ l L r3 v3)(hp:∀μ',MLe μ μ' →(∀x∈L,Bk.sh x μ')→Post μ' (.tuple #[v1,v2,v3])):
 GQ ⟨w,μ0,[],n⟩ (bodyPost P fn (fun e w' =>∃v μ',e=.returned v∧oH w w' μ0 μ' ∧Post μ' v)) .ret μ l L:=fun a w' hs=>by
 obtain⟨μ',hg,hle,hL⟩:=hs.JB;exact⟨hs.defers.none (by simp),_,yO (rs:=[r1,r2,r3]) (vs:=[v1,v2,v3]) hr (eN h1 (eN h2 (eN h3 jW))) rfl hs.rd,_,μ',rfl,hg,hp μ' hle hL⟩
end
end Go.Vcg
namespace Go.Proofs.YtknieidhopbngaaGreat
section
open Go.RowKit Go.Vcg
def kR(os:List Int):Bool:=match os.getLast? with
 |some x=>decide (x=0)
 |none=>false
def nU(os:List Int)(k n:Int)(s:List UInt8)(op:Bool):List Int:=
 if k=6∧n=0∧op=true then os++[0]
 else if k=6∧n=1∧op=false then os.dropLast
 else if k=5∧s=[123]then match os.getLast? with
  |some x=>os.dropLast++[x+1]
  |none=>os
 else if k=5∧s=[125]then match os.getLast? with
  |some x=>os.dropLast++[x-1]
  |none=>os
 else os
def xW(ts:List Tok)(r:List Tok×Nat×Int):List Tok×Nat×Int:=if r.2.2=0 then(ts++r.1,r.2)else r
theorem YD(r:List Tok×Nat×Int):xW [] r=r:=by simp[xW]
theorem HI(ts us:List Tok)(r:List Tok×Nat×Int):xW ts (xW us r)=xW (ts++us) r:=by
 unfold xW;by_cases h:r.2.2=0<;>simp[h]
def FR(xs:List UInt8):Nat→Nat→List Int→List Tok×Nat×Int
 |0,_,_=>([],0,99)
 | f+1,to,os=>
   if rT (xs.drop to) (kR os)≠0 then([],to+ (jA 0 false (xs.drop to)).1,rT (xs.drop to) (kR os))
   else if(fW to (xs.drop to) (kR os)).k=0 then([fW to (xs.drop to) (kR os)],0,0)
   else xW [fW to (xs.drop to) (kR os)] (FR xs f (fW to (xs.drop to) (kR os)).to.toNat (nU os (fW to (xs.drop to) (kR os)).k (fW to (xs.drop to) (kR os)).n (bl (fW to (xs.drop to) (kR os)).s) (fW to (xs.drop to) (kR os)).op))
def mW(xs:List UInt8):List Tok×Nat×Int:=FR xs (xs.length+2) 0 []
theorem SN{to:Nat}{xs:List UInt8}{tail:Bool}(h:rT xs tail=0):∃t g ln,jA 0 false xs=(g,ln,true)∧sV (xs.drop g) tail=.ok t∧fW to xs tail={ BK (to+g) t with line:=ln }∧g+t.len≤xs.length:=by
 unfold rT at h;unfold fW;have hle:=rW xs 0 false (by omega);generalize jA 0 false xs=g at h hle⊢;obtain⟨m,ln,ok⟩:=g;cases ok with
 |false=>simp at h
 | true=>
   simp only[if_true]at h⊢;rcases ho:sV (xs.drop m) tail with e|t
   ·rw[ho]at h;exact absurd h (LX ho)
   ·refine⟨t,m,ln,rfl,ho,rfl,?_⟩;have:=(CN ho).1;rw[bC]at this;simp only at hle;omega
theorem VB{xs:List UInt8}{tail:Bool}{t:T1}(h:sV xs tail=.ok t):0≤t.k∧t.k≤6∧(t.k=6→t.n=0∨(t.n=1∧tail=true)):=by
 unfold sV at h;split at h
 ·cases h;simp
 ·split at h
  ·cases h;refine⟨?_,?_,?_⟩<;>(simp only;split<;>omega)
  ·split at h
   ·split at h
    ·cases h
    ·cases h;simp
   ·split at h
    ·split at h
     ·cases h
     ·cases h;simp
    ·split at h
     ·rename_i hp;split at h
      ·cases h
      ·cases h;refine⟨by simp,by simp,fun _=>?_⟩;simp only;split
       ·rename_i hc;right;refine⟨rfl,?_⟩;rcases hp with hp|hp
        ·rw[hp]at hc;exact absurd hc (by decide)
        ·exact hp.2
       ·left;rfl
     ·split at h
      ·cases h
      ·cases h;simp
def gO(l:List Int):List Value:=l.map fun i=>.int .i64 i
theorem GH(l:List Int)(x:Int):gO (l++[x])=gO l++[.int .i64 x]:=by simp[gO]
theorem gS(l:List Tok)(t:Tok):(l++[t]).flatMap eB=l.flatMap eB++eB t:=by simp[aD]
def CV(s:ByteArray)(μ' :Mem)(v:Value):Prop:=∃A c,v=.tuple #[.slice A (mW (bl s)).1.length c,.int .i64 ((mW (bl s)).2.1:Int),.int .i64 (mW (bl s)).2.2]∧Sl eB 7 μ' A (mW (bl s)).1.length (mW (bl s)).1
attribute [local irreducible] G GC GQ GA dV Calls IntKind.wrap Int.decLt Int.decLe
set_option maxHeartbeats 2000000 in
theorem aAt(s:ByteArray)(hs:s.size≤65536)(w:World)(μ:Mem)(hμ:MOk μ w)(hM:lE μ):
 Calls Tryz.prog 20 #[.string s] w fun e w' =>∃v μ',e=.returned v∧oH w w' μ μ' ∧CV s μ' v:=by
 refine aQ Tryz.func20 rfl Tryz.ntmps20 (by simp) hμ ?_;have hA:∀(μ' :Mem) (v:Value) (r:List Tok×Nat×Int),mW (bl s)=r→(∃A c,v=.tuple #[.slice A r.1.length c,.int .i64 (r.2.1:Int),.int .i64 r.2.2]∧Sl eB 7 μ' A r.1.length r.1)→CV s μ' v:=fun μ' v r h hv=>by unfold CV;rw[h];exact hv
 generalize ay:mW (bl s)=all at hA;try repeat' (refine KZ ?_)
 refine dH (ι:=Nat×List Tok×List Int×Value×Value) (fun i=>i.1≤s.size∧i.2.1.length≤i.1∧i.2.2.1.length≤i.1∧(∀x∈i.2.2.1,-(i.1:Int)≤x∧x≤i.1)∧∃f,s.size<f+i.1∧all=xW i.2.1 (FR (bl s) f i.1 i.2.2.1)) (fun i=>s.size+1-i.1) (fun _=>μ)
  (fun i=>[(0,.string s),(2,i.2.2.2.1),(5,i.2.2.2.2),(6,.int .i64 i.1)])
  (fun i=>[.inr ⟨i.2.2.2.1,54,7,i.2.1.length,i.2.1.flatMap eB⟩,.inr ⟨i.2.2.2.2,3,1,i.2.2.1.length,gO i.2.2.1⟩]) (0,[],[],.slice none 0 0,.slice none 0 0)
  ⟨by simp,by simp,by simp,by simp,s.size+2,by dsimp only;omega,by rw[YD,←ay,mW,dU]⟩ (fun a w hs=>((hs.kU 3 1).kU 54 7).sub PU (by repeat exact aH _)) ?_
 rintro⟨to,ts,os,vl,vo⟩ ⟨au,az,p,aa,f,hf,hJ⟩;dsimp only at au az p aa hf hJ⊢;obtain⟨f,rfl⟩:∃f',f=f' +1:=⟨f-1,by omega⟩;rw[FR]at hJ;have j:=VF s hs to au (kR os);have a1:=rW ((bl s).drop to) 0 false (by omega);rw[bC,dU]at a1;have aw:(os=[]∧kR os=false)∨∃q x,os=q++[x]∧kR os=decide (x=0):=by
  rcases List.eq_nil_or_concat os with h|⟨q,x,h⟩
  ·left;exact⟨h,by rw[h];rfl⟩
  ·right;exact⟨q,x,by rw[h];simp,by rw[h];simp[kR]⟩
 by_cases hE:rT ((bl s).drop to) (kR os)=0
 ·rw [if_neg (by simp[hE])]at hJ;obtain⟨t,g,ln,ba,an,a6,ax⟩:=SN hE;have o:=VB an;have hole:=CN an;rw[hE]at j;rw[a6]at j hJ;rw[bC,dU]at ax;obtain⟨tk,tl,tn,tb,top⟩:=t;simp only[BK,rM,fG]at hJ;have hole:=CN an;simp only at ax o hole;generalize hT:(⟨tk,((to+g:Nat):Int),((to+g+tl:Nat):Int),tn,ofL tb,ln,top⟩:Tok)=T at hJ;have j:∀(w:World) (μ:Mem),MOk μ w→lE μ→aO 39 #[.string s,.int .i64 to,.bool (kR os)] w (.tuple #[.agg (([.int .i64 tk,.int .i64 ((to+g:Nat):Int),.int .i64 ((to+g+tl:Nat):Int),.int .i64 tn,.string (ofL tb),.bool ln,.bool top]:List Value).toArray),.int .i64 ((to+ (jA 0 false ((bl s).drop to)).1:Nat):Int),.int .i64 0]):=by exact j
  have ah:tk≠0→0<tl:=fun h=>by
   by_cases hn:((bl s).drop to).drop g=[]
   ·exact absurd (hole.2.2 hn) h
   ·exact(hole.2.1 hn).1
  have e1:(ofL tb=⟨#[123]⟩)↔tb=[123]:=⟨fun h=>by rw[←rM tb,h],fun h=>by rw[h];rfl⟩;have e2:(ofL tb=⟨#[125]⟩)↔tb=[125]:=⟨fun h=>by rw[←rM tb,h],fun h=>by rw[h];rfl⟩;rcases aw with⟨rfl,u⟩|⟨q,x,rfl,u⟩
  ·have al:([]:List Int).length=0:=rfl;have l:True:=trivial;have q:List Int:=[];rw[u]at j o;by_cases h0:tk=0
   ·rw[if_pos h0]at hJ;try repeat' (first|refine KO ?_|refine K2 39 (fun w μc hw d=>j w μc hw (hM.mono d)) ?_|(((with_reducible apply pJ);(iterate 3 exact rfl);(repeat first|with_reducible exact eO|with_reducible apply gX);(iterate 6 exact rfl);(((with_reducible apply lV);exact rfl;(repeat with_reducible exact bT);exact rfl));exact rfl;exact jI (by(repeat first|with_reducible exact eG|((with_reducible apply dO);exact rfl)));omega;omega;intro v))|(refine KV (b:=by(((with_reducible apply qL 1);(iterate 3 exact rfl)))) (c:=?_))|refine KZ ?_|refine NB fun b=>?_)
    refine vE rfl (aN rfl) (aN rfl) (aN rfl) fun μ' ad hL=>hA μ' _ _ hJ ?_;obtain⟨A,c,hv,ak⟩:=XI (enc:=eB) (xs:=ts++[T]) (hL _ (fB (i:=2) rfl)) (by simp) (fun _ _=>rfl) (by rw[gS,←hT]);have hlen:(ts++[T]).length=ts.length+1:=by simp
    refine⟨A,c,?_,?_⟩
    ·rw[hv];simp[xW]
    ·simp only[xW,if_true,hlen];exact ak
   ·rw [if_neg h0,HI]at hJ;have ao:=ah h0;by_cases h6:tk=6
    ·have hn:tn=0:=by
      rcases o.2.2 h6 with h|⟨_,h⟩
      ·exact h
      ·cases h
     cases top with
     | true=>
       have z:nU [] tk tn tb true=[0]:=by simp[nU,h6,hn]
       try repeat' (first|refine KO ?_|refine K2 39 (fun w μc hw d=>j w μc hw (hM.mono d)) ?_|(((with_reducible apply pJ);(iterate 3 exact rfl);(repeat first|with_reducible exact eO|with_reducible apply gX);(iterate 6 exact rfl);(((with_reducible apply lV);exact rfl;(repeat with_reducible exact bT);exact rfl));exact rfl;exact jI (by(repeat first|with_reducible exact eG|((with_reducible apply dO);exact rfl)));omega;omega;intro v))|(refine KV (b:=by(((with_reducible apply qL 1);(iterate 3 exact rfl)))) (c:=?_))|refine KZ ?_|refine NB fun b=>?_)
       rename_i v1;refine gG (to+g+tl,ts++[T],[0],v1,v) ⟨by dsimp only;omega,by simp;omega,by simp only[aB,aF,aL]at p⊢;omega,fun y k=>by simp at k;subst k;dsimp only;omega,f,by dsimp only;omega,?_⟩ (by dsimp only;omega) rfl PU ?_
       ·rw[hJ,z]
       ·dsimp only;rw[gS,aB,←hT];exact(by repeat first|exact aH _|refine aG ?_)
     | false=>
       have z:nU [] tk tn tb false=[]:=by simp[nU,h6,hn]
       try repeat' (first|refine KO ?_|refine K2 39 (fun w μc hw d=>j w μc hw (hM.mono d)) ?_|(((with_reducible apply pJ);(iterate 3 exact rfl);(repeat first|with_reducible exact eO|with_reducible apply gX);(iterate 6 exact rfl);(((with_reducible apply lV);exact rfl;(repeat with_reducible exact bT);exact rfl));exact rfl;exact jI (by(repeat first|with_reducible exact eG|((with_reducible apply dO);exact rfl)));omega;omega;intro v))|(refine KV (b:=by(((with_reducible apply qL 1);(iterate 3 exact rfl)))) (c:=?_))|refine KZ ?_|refine NB fun b=>?_)
       refine gG (to+g+tl,ts++[T],[],v,vo) ⟨by dsimp only;omega,by simp;omega,by simp only[aB,aF,aL]at p⊢;omega,fun y k=>by have:=aa y k;dsimp only;omega,f,by dsimp only;omega,?_⟩ (by dsimp only;omega) rfl PU ?_
       ·rw[hJ,z]
       ·dsimp only;rw[gS,aB,←hT];exact(by repeat first|exact aH _|refine aG ?_)
    ·have z:nU [] tk tn tb top=[]:=by unfold nU;rw[if_neg (fun h=>h6 h.1),if_neg (fun h=>h6 h.1)];split<;>first|rfl|(split<;>rfl)
     try repeat' (first|refine KO ?_|refine K2 39 (fun w μc hw d=>j w μc hw (hM.mono d)) ?_|(((with_reducible apply pJ);(iterate 3 exact rfl);(repeat first|with_reducible exact eO|with_reducible apply gX);(iterate 6 exact rfl);(((with_reducible apply lV);exact rfl;(repeat with_reducible exact bT);exact rfl));exact rfl;exact jI (by(repeat first|with_reducible exact eG|((with_reducible apply dO);exact rfl)));omega;omega;intro v))|(refine KV (b:=by(((with_reducible apply qL 1);(iterate 3 exact rfl)))) (c:=?_))|refine KZ ?_|refine NB fun b=>?_)
     refine gG (to+g+tl,ts++[T],[],v,vo) ⟨by dsimp only;omega,by simp;omega,by simp only[aB,aF,aL]at p⊢;omega,fun y k=>by have:=aa y k;dsimp only;omega,f,by dsimp only;omega,?_⟩ (by dsimp only;omega) rfl PU ?_
     ·rw[hJ,z]
     ·dsimp only;rw[gS,aB,←hT];exact(by repeat first|exact aH _|refine aG ?_)
  ·have al:(q++[x]).length=q.length+1:=by simp
   have l:(gO (q++[x]))[q.length*1]? =some (.int .i64 x):=by simp[gO]
   have hx:=aa x (by simp);have af:∀y∈q,-(to:Int)≤y∧y≤to:=fun y k=>aa y (by simp[k]);refine ES 1 rfl (by simp) (fun g' cap ai hcap=>?_);subst ai;have a8:q.length≤cap:=by omega
   rw[u]at j o;by_cases h0:tk=0
   ·rw[if_pos h0]at hJ;try repeat' (first|refine KO ?_|refine K2 39 (fun w μc hw d=>j w μc hw (hM.mono d)) ?_|(((with_reducible apply pJ);(iterate 3 exact rfl);(repeat first|with_reducible exact eO|with_reducible apply gX);(iterate 6 exact rfl);(((with_reducible apply lV);exact rfl;(repeat with_reducible exact bT);exact rfl));(exact rfl);((exact jI (by(repeat first|with_reducible exact eG|((with_reducible apply dO);(exact rfl))))));omega;omega;intro v))|(refine KV (b:=by first|exact U1 q.length|(((with_reducible apply kL 1);(iterate 3 exact rfl);(exact l)))) (c:=?_))|refine KZ ?_|refine NB fun b=>?_)
    refine vE rfl (aN rfl) (aN rfl) (aN rfl) fun μ' ad hL=>hA μ' _ _ hJ ?_;obtain⟨A,c,hv,ak⟩:=XI (enc:=eB) (xs:=ts++[T]) (hL _ (fB (i:=2) rfl)) (by simp) (fun _ _=>rfl) (by rw[gS,←hT]);have hlen:(ts++[T]).length=ts.length+1:=by simp
    refine⟨A,c,?_,?_⟩
    ·rw[hv];simp[xW]
    ·simp only[xW,if_true,hlen];exact ak
   ·rw [if_neg h0,HI]at hJ;have ao:=ah h0;by_cases ar:tk=6∧tn=0∧top=true
    ·obtain⟨h6,hn,rfl⟩:=ar;have z:nU (q++[x]) tk tn tb true=q++[x]++[0]:=by simp[nU,h6,hn]
     try repeat' (first|refine KO ?_|refine K2 39 (fun w μc hw d=>j w μc hw (hM.mono d)) ?_|(((with_reducible apply pJ);(iterate 3 exact rfl);(repeat first|with_reducible exact eO|with_reducible apply gX);(iterate 6 exact rfl);(((with_reducible apply lV);exact rfl;(repeat with_reducible exact bT);exact rfl));(exact rfl);((exact jI (by(repeat first|with_reducible exact eG|((with_reducible apply dO);(exact rfl))))));omega;omega;intro v))|(refine KV (b:=by first|exact U1 q.length|(((with_reducible apply kL 1);(iterate 3 exact rfl);(exact l)))) (c:=?_))|refine KZ ?_|refine NB fun b=>?_)
     rename_i v1;refine gG (to+g+tl,ts++[T],q++[x]++[0],v1,v) ⟨by dsimp only;omega,by simp;omega,by simp only[aB,aF,aL]at p⊢;omega,fun y k=>by simp only[bU,bM]at k;rcases k with(k|k)|k;(have:=af y k;dsimp only;omega);(subst k;dsimp only;omega);(subst k;dsimp only;omega),f,by dsimp only;omega,?_⟩ (by dsimp only;omega) rfl PU ?_
     ·rw[hJ,z]
     ·dsimp only;rw[gS,aB,←hT,GH (q++[x]) 0,show(q++[x]++[(0:Int)]).length=(q++[x]).length+1 by simp];exact(by repeat first|exact aH _|refine aG ?_)
    ·by_cases aq:tk=6∧tn=1∧top=false
     ·obtain⟨h6,hn,rfl⟩:=aq;have z:nU (q++[x]) tk tn tb false=q:=by simp[nU,h6,hn]
      try repeat' (first|refine KO ?_|refine K2 39 (fun w μc hw d=>j w μc hw (hM.mono d)) ?_|(((with_reducible apply pJ);(iterate 3 exact rfl);(repeat first|with_reducible exact eO|with_reducible apply gX);(iterate 6 exact rfl);(((with_reducible apply lV);exact rfl;(repeat with_reducible exact bT);exact rfl));(exact rfl);((exact jI (by(repeat first|with_reducible exact eG|((with_reducible apply dO);(exact rfl))))));omega;omega;intro v))|(refine KV (b:=by first|exact U1 q.length|(((with_reducible apply kL 1);(iterate 3 exact rfl);(exact l)))|(((with_reducible apply CY q.length);(iterate 4 exact rfl);(omega);omega))) (c:=?_))|refine KZ ?_|refine NB fun b=>?_)
      refine EM (i:=3) (gO q) q.length rfl (by simp) (by simp[gO]) ?_;refine gG (to+g+tl,ts++[T],q,v,.slice (some ⟨g',0,none⟩) q.length cap) ⟨by dsimp only;omega,by simp;omega,by simp only[aB,aF,aL]at p⊢;omega,fun y k=>by have:=af y k;dsimp only;omega,f,by dsimp only;omega,?_⟩ (by dsimp only;omega) rfl PU ?_
      ·rw[hJ,z]
      ·dsimp only;rw[gS,aB,←hT];exact(by repeat first|exact aH _|refine aG ?_)
     ·by_cases ae:tk=5∧tb=[123]
      ·obtain⟨h5,ab⟩:=ae;have av:=e1.2 ab;have z:nU (q++[x]) tk tn tb top=q++[x+1]:=by unfold nU;rw[if_neg (fun h=>by omega),if_neg (fun h=>by omega),if_pos ⟨h5,ab⟩];simp
       try repeat' (first|refine KO ?_|refine K2 39 (fun w μc hw d=>j w μc hw (hM.mono d)) ?_|(((with_reducible apply pI 3);(iterate 7 exact rfl);(simp[gO])))|(((with_reducible apply pJ);(iterate 3 exact rfl);(repeat first|with_reducible exact eO|with_reducible apply gX);(iterate 6 exact rfl);(((with_reducible apply lV);exact rfl;(repeat with_reducible exact bT);exact rfl));(exact rfl);((exact jI (by(repeat first|with_reducible exact eG|((with_reducible apply dO);(exact rfl))))));omega;omega;intro v))|(refine KV (b:=by first|exact U1 q.length|(first|((with_reducible apply kL 1);(iterate 3 exact rfl);(exact l))|((with_reducible apply kL 3);(iterate 3 exact rfl);(exact l)))) (c:=?_))|refine KZ ?_|refine NB fun b=>?_)
       have aj:(gO (q++[x])).take (q.length*1)++[Value.int .i64 (x+1)]++(gO (q++[x])).drop (q.length*1+1)=gO (q++[x+1]):=by simp[gO]
       refine gG (to+g+tl,ts++[T],q++[x+1],v,.slice (some ⟨g',0,none⟩) (q++[x]).length cap) ⟨by dsimp only;omega,by simp;omega,by simp only[aB,aF,aL]at p⊢;omega,fun y k=>by simp only[bU,bM]at k;rcases k with k|k;(have:=af y k;dsimp only;omega);(subst k;dsimp only;omega),f,by dsimp only;omega,?_⟩ (by dsimp only;omega) rfl PU ?_
       ·rw[hJ,z]
       ·dsimp only;rw[gS,aB,←hT,show(q++[x+1]).length=(q++[x]).length by simp,←aj];exact(by repeat first|exact aH _|refine aG ?_)
      ·by_cases ap:tk=5∧tb=[125]
       ·obtain⟨h5,ab⟩:=ap;have av:=e2.2 ab;have a7:¬ofL tb=⟨#[123]⟩:=fun h=>ae ⟨h5,e1.1 h⟩;have z:nU (q++[x]) tk tn tb top=q++[x-1]:=by unfold nU;rw[if_neg (fun h=>by omega),if_neg (fun h=>by omega),if_neg ae,if_pos ⟨h5,ab⟩];simp
        try repeat' (first|refine KO ?_|refine K2 39 (fun w μc hw d=>j w μc hw (hM.mono d)) ?_|(((with_reducible apply pI 3);(iterate 7 exact rfl);(simp[gO])))|(((with_reducible apply pJ);(iterate 3 exact rfl);(repeat first|with_reducible exact eO|with_reducible apply gX);(iterate 6 exact rfl);(((with_reducible apply lV);exact rfl;(repeat with_reducible exact bT);exact rfl));(exact rfl);((exact jI (by(repeat first|with_reducible exact eG|((with_reducible apply dO);(exact rfl))))));omega;omega;intro v))|(refine KV (b:=by first|exact U1 q.length|(first|((with_reducible apply kL 1);(iterate 3 exact rfl);(exact l))|((with_reducible apply kL 3);(iterate 3 exact rfl);(exact l)))) (c:=?_))|refine KZ ?_|refine NB fun b=>?_)
        have aj:(gO (q++[x])).take (q.length*1)++[Value.int .i64 (x-1)]++(gO (q++[x])).drop (q.length*1+1)=gO (q++[x-1]):=by simp[gO]
        refine gG (to+g+tl,ts++[T],q++[x-1],v,.slice (some ⟨g',0,none⟩) (q++[x]).length cap) ⟨by dsimp only;omega,by simp;omega,by simp only[aB,aF,aL]at p⊢;omega,fun y k=>by simp only[bU,bM]at k;rcases k with k|k;(have:=af y k;dsimp only;omega);(subst k;dsimp only;omega),f,by dsimp only;omega,?_⟩ (by dsimp only;omega) rfl PU ?_
        ·rw[hJ,z]
        ·dsimp only;rw[gS,aB,←hT,show(q++[x-1]).length=(q++[x]).length by simp,←aj];exact(by repeat first|exact aH _|refine aG ?_)
       ·have z:nU (q++[x]) tk tn tb top=q++[x]:=by unfold nU;rw[if_neg ar,if_neg aq,if_neg ae,if_neg ap]
        have hD:(tk=6∧tn=0∧top=false)∨(tk=6∧tn=1∧top=true)∨(tk=5∧¬ofL tb=⟨#[123]⟩∧¬ofL tb=⟨#[125]⟩)∨(¬tk=6∧¬tk=5):=by
         by_cases h6:tk=6
         ·rcases o.2.2 h6 with h|⟨h,_⟩
          ·left;exact⟨h6,h,by cases top with|true=>exact absurd ⟨h6,h,rfl⟩ ar|false=>rfl⟩
          ·right;left;exact⟨h6,h,by cases top with|true=>rfl|false=>exact absurd ⟨h6,h,rfl⟩ aq⟩
         ·by_cases h5:tk=5
          ·right;right;left;exact⟨h5,fun h=>ae ⟨h5,e1.1 h⟩,fun h=>ap ⟨h5,e2.1 h⟩⟩
          ·right;right;right;exact⟨h6,h5⟩
        rcases hD with⟨d1,d2,rfl⟩|⟨d1,d2,rfl⟩|⟨d1,d2,d3⟩|⟨d1,d2⟩
        all_goals
         try repeat' (first|refine KO ?_|refine K2 39 (fun w μc hw d=>j w μc hw (hM.mono d)) ?_|(((with_reducible apply pJ);(iterate 3 exact rfl);(repeat first|with_reducible exact eO|with_reducible apply gX);(iterate 6 exact rfl);(((with_reducible apply lV);exact rfl;(repeat with_reducible exact bT);exact rfl));(exact rfl);((exact jI (by(repeat first|with_reducible exact eG|((with_reducible apply dO);(exact rfl))))));omega;omega;intro v))|(refine KV (b:=by first|exact U1 q.length|(((with_reducible apply kL 1);(iterate 3 exact rfl);(exact l)))) (c:=?_))|refine KZ ?_|refine NB fun b=>?_)
         refine gG (to+g+tl,ts++[T],q++[x],v,.slice (some ⟨g',0,none⟩) (q++[x]).length cap) ⟨by dsimp only;omega,by simp;omega,by simp only[aB,aF,aL]at p⊢;omega,fun y k=>by have:=aa y k;dsimp only;omega,f,by dsimp only;omega,?_⟩ (by dsimp only;omega) rfl PU ?_
         ·rw[hJ,z]
         ·dsimp only;rw[gS,aB,←hT];exact(by repeat first|exact aH _|refine aG ?_)
 ·have ag:=hE;rw[if_pos hE]at hJ;have q:List Int:=[];rcases aw with⟨rfl,u⟩|⟨q,x,rfl,u⟩
  ·have al:([]:List Int).length=0:=rfl;have l:True:=trivial;rw[u]at j ag hJ;try repeat' (first|refine KO ?_|refine K2 39 (fun w μc hw d=>j w μc hw (hM.mono d)) ?_|(refine KV (b:=by(((with_reducible apply qL 1);(iterate 3 exact rfl)))) (c:=?_))|refine KZ ?_|refine NB fun b=>?_)
   refine vE rfl (aN rfl) (aN rfl) (aN rfl) fun μ' ad hL=>hA μ' _ _ hJ ?_;simp only[xW];rw[if_neg ag];exact⟨none,0,rfl,rfl,fun h=>absurd h (by simp)⟩
  ·have al:(q++[x]).length=q.length+1:=by simp
   have l:(gO (q++[x]))[q.length*1]? =some (.int .i64 x):=by simp[gO]
   refine ES 1 rfl (by simp) (fun g' cap ai hcap=>?_);subst ai;rw[u]at j ag hJ;try repeat' (first|refine KO ?_|refine K2 39 (fun w μc hw d=>j w μc hw (hM.mono d)) ?_|(refine KV (b:=by first|exact U1 q.length|(((with_reducible apply kL 1);(iterate 3 exact rfl);(exact l)))) (c:=?_))|refine KZ ?_|refine NB fun b=>?_)
   refine vE rfl (aN rfl) (aN rfl) (aN rfl) fun μ' ad hL=>hA μ' _ _ hJ ?_;simp only[xW];rw[if_neg ag];exact⟨none,0,rfl,rfl,fun h=>absurd h (by simp)⟩
end
section
open Go.RowKit Go.Vcg
attribute [local irreducible] G GC GQ GA dV Calls IntKind.wrap Int.decLt Int.decLe
theorem GG(s:ByteArray)(l:List ByteArray)(k:Nat){x:ByteArray}(h:l[k]? =some x):s∈l.take (k+1)↔s∈l.take k∨s=x:=by
 obtain⟨hk,rfl⟩:=List.getElem?_eq_some_iff.1 h;rw[fT hk,bU,bM]
theorem QT(s:ByteArray)(w:World)(μ:Mem)(hμ:MOk μ w)(A:Option Addr)(n c:Nat)(l:List ByteArray)(hc:Sl FA 1 μ A n l)(hn:n≤140737488351232):
 aO 127 #[.string s,.slice A n c] w (.bool (MK l s)):=by
 refine aQ Tryz.func127 rfl Tryz.ntmps127 (by simp) hμ ?_;try repeat' (refine KZ ?_)
 refine dH (ι:=Nat) (fun k=>k≤n∧s∉l.take k) (fun k=>n-k) (fun _=>μ) (fun k=>[(9,.int .i64 k),(8,.int .i64 n),(7,.slice A n c),(0,.string s)]) (fun _=>[]) 0 ⟨by omega,by simp⟩ (fun a w hs=>J6 hs) ?_;rintro k ⟨hk,hr⟩;by_cases d:k<n
 ·obtain⟨ad,x,rfl,g,hm⟩:=hc.get d;have hs:=GG s l k g;try repeat' (first|refine KO ?_|(refine KV (b:=by first|exact U1 k|exact U3 (hm.at 0 rfl)) (c:=?_))|refine KZ ?_|(refine KB ?_ ?_<;>intro hp))
  ·refine bL rfl rfl ?_;subst hp;rw[MJ.2 (aZ g)]
  ·refine J4 (k+1) ⟨by omega,by rw[hs];exact fun e=>e.elim hr (fun e=>hp e.symm)⟩ (by omega)
 ·try repeat' (refine KZ ?_)
  refine bL rfl rfl ?_;rw[dL (by rw[hc.1];omega)]at hr;rw[PO hr]
theorem SK{μ:Mem}{x:Blk}(h:Bk.sh (.inl x) μ)(s:ByteArray)(hv:lk x.cs 0=some (.string s)):Sl FA 1 μ (some ⟨x.b,0,none⟩) 1 [s]:=
 Sl.aHy h (fun j v a=>by
  match j,a with
  |0,a=>simp[FA]at a;subst a;exact hv
  |j+1,a=>simp[FA]at a)
theorem NP(t:Tok)(w:World)(μ:Mem)(hμ:MOk μ w)(A:Option Addr)(m c:Nat)(l:List ByteArray)(hc:Sl FA 1 μ A m l)(hm:m≤140737488351232):
 aO 112 #[.agg (eB t).toArray,.slice A m c] w (.bool (decide (t.k=5)&&MK l t.s)):=by
 refine aQ Tryz.func112 rfl Tryz.ntmps112 (by simp) hμ ?_;try repeat' (first|refine KZ ?_|((with_reducible apply C1);exact rfl;exact EN;exact fun w μc hk a=>QT _ w μc hk _ _ _ l (hc.mono a.le) hm)|refine NB fun b=>?_|(refine KB ?_ ?_<;>intro hp))
 all_goals refine bL rfl rfl ?_
 all_goals simp[*]
def XE:ByteArray:=⟨#[59]⟩
def aAi:ByteArray:=⟨#[125]⟩
def PJ(t:Tok):Bool:=t.line||decide (t.k=0)||(decide (t.k=5)&&decide (t.s=aAi))
theorem YS(t:Tok)(w:World)(μ:Mem)(hμ:MOk μ w):
 aO 113 #[.agg (eB t).toArray] w (.bool (PJ t)):=by
 refine aQ Tryz.func113 rfl Tryz.ntmps113 (by simp) hμ ?_;try repeat' (first|refine KZ ?_|((with_reducible apply C1);exact rfl;exact EN;exact fun w μc hk a=>NP t w μc hk _ _ _ [⟨#[125]⟩] (SK a.hd _ rfl) (by omega))|refine NB fun b=>?_|(refine KB ?_ ?_<;>intro hp))
 all_goals refine bL rfl rfl ?_
 all_goals(simp_all[MK,PJ,aAi];try rfl)
def jE(ts:List Tok)(at' :Int):Int×Bool:=
 if at' <0 then(0,false)else
 match ts[at'.toNat]? with
 |none=>(0,false)
 |some t=>if t.k=5∧t.s=XE then(at' +1,true)else if PJ t=true then(at',true)else(0,false)
theorem MX{ts:List Tok}{k:Nat}{t:Tok}(h:ts[k]? =some t):jE ts (k:Int)=if t.k=5∧t.s=XE then((k:Int)+1,true)else if PJ t=true then((k:Int),true)else(0,false):=by
 unfold jE;rw[if_neg (by omega),fG,h]
theorem QV(w:World)(μ:Mem)(hμ:MOk μ w)(A:Option Addr)(n c:Nat)(ts:List Tok)(hc:Sl eB 7 μ A n ts)(hn:n≤1000000)(k:Nat)(hk:k<n):
 aO 75 #[.slice A n c,.int .i64 k] w (.tuple #[.int .i64 (jE ts k).1,.bool (jE ts k).2]):=by
 refine aQ Tryz.func75 rfl Tryz.ntmps75 (by simp) hμ ?_;obtain⟨ad,x,rfl,d,hm⟩:=hc.get (k:=k) hk;have he:=MX d;try repeat' (first|refine KO ?_|((with_reducible apply F1 112);exact rfl;exact EN;(exact fun w μc hk a=>NP x w μc hk _ _ _ [XE] (SK a.hd _ rfl) (by omega)))|((with_reducible apply F1 113);exact rfl;exact EN;(exact fun w μc hk a=>YS x w μc hk))|(refine KV (b:=by first|exact U1 k|exact U4 hm) (c:=?_))|refine KZ ?_|refine NB fun b=>?_|(refine KB ?_ ?_<;>intro hp))
 all_goals refine aEm rfl rfl rfl ?_ ?_
 all_goals rw[he]
 all_goals clear hμ hm hc
 all_goals grind[MK,PJ,aAi,XE]
end
section
open Go.RowKit Go.Vcg
structure TkE where
 ts:List Tok
 cl:List Int
structure RdS where
 i:Nat
 gen:Bool
 e:Int
 at' :Int
 bg:Nat
 as' :Int
 lf:Int
 lt:Int
 la:Int
def bd{α β:Type}(p:α×RdS)(k:α→RdS→β):β:=k p.1 p.2
structure RdR where
 asg:Bool→Int→RdS→T×RdS
 clb:Bool→Int→Bool→Bool→RdS→(T×Bool×Bool)×RdS
 una:RdS→T×RdS
 fre:RdS→T×RdS
 stm:Bool→RdS→T×RdS
 tar:RdS→T×RdS
abbrev nd(op at' :Int)(ks:List T):T:=T.mk op at' 0 0 empty ks
def sgn(t:Tok)(x:ByteArray):Bool:=decide (t.k=5)&&decide (t.s=x)
def aAl:List ByteArray:=[⟨#[61]⟩,⟨#[43,61]⟩,⟨#[45,61]⟩,⟨#[42,61]⟩,⟨#[47,61]⟩,⟨#[37,61]⟩,⟨#[38,61]⟩,⟨#[124,61]⟩,⟨#[94,61]⟩,⟨#[60,60,61]⟩,⟨#[62,62,61]⟩,⟨#[38,38,61]⟩,⟨#[124,124,61]⟩,⟨#[63,63,61]⟩]
def pL(t:Tok):Bool:=aAl.any (fun x=>decide (t.s=x))&&decide (t.k=5)
def rQ(t:Tok):Bool:=decide (t.k=1)||decide (t.k=2)||decide (t.k=4)||decide (t.k=3)||sgn t ⟨#[91]⟩
def vF(x:ByteArray):Int:=
 if x=⟨#[63,63]⟩then 1 else if x=⟨#[124,124]⟩then 2 else if x=⟨#[38,38]⟩then 3 else if x=⟨#[124]⟩then 4 else if x=⟨#[94]⟩then 5 else if x=⟨#[38]⟩then 6
 else if x=⟨#[61,61]⟩∨x=⟨#[33,61]⟩∨x=⟨#[61,61,61]⟩∨x=⟨#[33,61,61]⟩then 7
 else if x=⟨#[60]⟩∨x=⟨#[62]⟩∨x=⟨#[60,61]⟩∨x=⟨#[62,61]⟩∨x=⟨#[105,110,115,116,97,110,99,101,111,102]⟩∨x=⟨#[105,110]⟩then 8
 else if x=⟨#[60,60]⟩∨x=⟨#[62,62]⟩then 9 else if x=⟨#[43]⟩∨x=⟨#[45]⟩then 10 else if x=⟨#[42]⟩∨x=⟨#[47]⟩∨x=⟨#[37]⟩then 11 else 0
def nV(t:Tok):Bool:=sgn t ⟨#[40]⟩||sgn t ⟨#[91]⟩||sgn t ⟨#[123]⟩||(decide (t.k=6)&&decide (t.n=0)&&t.op)
def qG(t:Tok):Bool:=sgn t ⟨#[41]⟩||sgn t ⟨#[93]⟩||sgn t ⟨#[125]⟩||(decide (t.k=6)&&decide (t.n=1)&& !t.op)
def nW:List Tok→Nat→List Int→List Nat→List Int
 |[],_,cl,_=>cl
 | t::r,i,cl,op=>
   let op1:=if nV t then op++[i]else op
   match (if qG t then op1.getLast? else none)with
   |some j=>nW r (i+1) (cl.set j i) op1.dropLast
   |none=>nW r (i+1) cl op1
def GP(t:T):T:=T.mk t.op t.at' 1 t.m t.s t.kids
section
variable(E:TkE)
def tk(k:Nat):Tok:=E.ts.getD k nC
def aJ(s:RdS):Tok:=tk E s.i
def ahR(n:Nat)(s:RdS):Tok:=tk E (min (s.i+n) (E.ts.length-1))
def isR(s:RdS)(x:ByteArray):Bool:=sgn (aJ E s) x
def cP(s:RdS)(x:ByteArray):Bool:=decide ((aJ E s).s=x)&&(decide ((aJ E s).k=2)||decide ((aJ E s).k=1)&&decide (x=⟨#[108,101,116]⟩))
def mZ(s:RdS)(x:ByteArray):Bool:=decide ((aJ E s).k=1)&&decide ((aJ E s).s=x)
def mL(s:RdS)(t:Tok):Bool:=decide (t.k=1)&&decide (t.s≠⟨#[108,101,116]⟩)&& !(s.gen&&decide (t.s=⟨#[121,105,101,108,100]⟩))
def bJ(s:RdS):RdS:=if s.i+1<E.ts.length then{ s with i:=s.i+1 }else s
def iF(a e:Int)(s:RdS):RdS:={ s with i:=E.ts.length-1,at' :=if s.e=0 then a else s.at',e:=if s.e=0 then e else s.e }
def iE(s:RdS):RdS:=iF E (aJ E s).at' 23 s
def cH(x:ByteArray)(s:RdS):RdS:=if isR E s x then bJ E s else s
def eP(x:ByteArray)(s:RdS):RdS:=if isR E s x then bJ E s else iE E s
def rJ(s:RdS):RdS:=if isR E s ⟨#[59]⟩then{ s with i:=min (s.i+1) (E.ts.length-1) }else if PJ (aJ E s)then s else iE E s
def kI(s:RdS):T:=nd 7 (aJ E s).at' []
def wE(k:Nat)(s:RdS):Bool:=sgn (tk E k) ⟨#[40]⟩&&decide (E.cl.getD k (-1)=(s.i:Int)-1)
def kJ(s:RdS):Bool:=mZ E s ⟨#[111,102]⟩||cP E s ⟨#[105,110]⟩
def lR(k:Nat)(s:RdS):Int:=if s.e=0∧s.lf=k∧s.lt=s.i then s.la else-1
def sJ(s:RdS):Bool:=
 let t:=aJ E s
 let z:Int:=if sgn t ⟨#[40]⟩then E.cl.getD s.i (-1)else s.i
 (if sgn t ⟨#[40]⟩then decide (0≤z)&&sgn (tk E z.toNat) ⟨#[41]⟩else mL s t)&&decide (z+1<E.ts.length)&&sgn (tk E (z+1).toNat) ⟨#[61,62]⟩&& !(tk E (z+1).toNat).line
def iY(n:T)(boxed:Bool)(s:RdS):T×RdS:=
 if s.e≠0 then(n,s)else if boxed then(n,if eW n then s else iF E n.at' 24 s)
 else((xY n).1,if(xY n).2=0 then s else iF E n.at' (xY n).2 s)
def DA(k:T)(s:RdS):RdS:=if s.e=0∧eW k=false then iF E k.at' 24 s else s
def eI(b:Bool)(s:RdS):Int:=if(aJ E s).k≠5∧cP E s ⟨#[105,110,115,116,97,110,99,101,111,102]⟩=false∧(b&&cP E s ⟨#[105,110]⟩)=false then 0 else vF (aJ E s).s
variable(r:RdR)
def pA(b:Bool):Nat→List T→RdS→List T×RdS
 |0,acc,s=>(acc,s)
 |f+1,acc,s=>if s.e=0∧isR E s ⟨#[44]⟩=true then bd (r.asg b 0 (bJ E s)) fun t s1=>pA b f (acc++[t]) s1 else(acc,s)
def oC(b:Bool)(n:T)(s:RdS):T×RdS:=if isR E s ⟨#[44]⟩then bd (pA E r b (E.ts.length+1) [n] s) fun l s1=>(nd 48 n.at' l,s1)else(n,s)
def gN(b:Bool)(s:RdS):T×RdS:=bd (r.asg b 0 s) fun t s1=>oC E r b t s1
def uQ(cs:Bool):Nat→List T→Bool→Bool→RdS→(List T×Bool)×RdS
 |0,acc,_,st,s=>((acc,st),s)
 | f +1,acc,hd,st,s=>
   if s.e=0∧(aJ E s).k≠0∧isR E s ⟨#[125]⟩=false∧(cs&&(cP E s ⟨#[99,97,115,101]⟩||cP E s ⟨#[100,101,102,97,117,108,116]⟩))=false then
    bd (r.stm true s) fun n s1=>
     let t:=aJ E s
     let hd1:=hd&&decide (t.k=4∧n.op=8∧(n.kids.headD T.zero).op=31∧(n.kids.headD T.zero).at' =t.at')
     uQ cs f (acc++[n]) hd1 (st||(hd1&&decide (t.s=⟨#[117,115,101,32,115,116,114,105,99,116]⟩∧t.to-t.at' =12))) s1
   else((acc,st),s)
def rC(cs:Bool)(s:RdS):(List T×Bool)×RdS:=uQ E r cs (E.ts.length+1) [] true false s
def hH(s:RdS):(T×Bool)×RdS:=bd (rC E r false (eP E ⟨#[123]⟩ s)) fun x s1=>((nd 6 (aJ E s).at' x.1,x.2),eP E ⟨#[125]⟩ s1)
def jJ(s:RdS):T×RdS:=bd (r.tar s) fun t s1=>if isR E s1 ⟨#[61]⟩then bd (r.asg true 0 (bJ E s1)) fun v s2=>(nd 63 t.at' [t,v],s2)else(t,s1)
def pY:Nat→List T→RdS→List T×RdS
 |0,acc,s=>(acc,s)
 | f+1,acc,s=>
   if s.e=0∧isR E s ⟨#[41]⟩=false then
    if isR E s ⟨#[46,46,46]⟩then bd (r.tar (bJ E s)) fun t s1=>(acc++[nd 64 (aJ E s).at' [t]],s1)
    else bd (jJ E r s) fun t s1=>if isR E s1 ⟨#[44]⟩then pY f (acc++[t]) (bJ E s1)else(acc++[t],s1)
   else(acc,s)
def lG(s:RdS):T×RdS:=bd (pY E r (E.ts.length+1) [] (eP E ⟨#[40]⟩ s)) fun l s1=>(nd 5 (aJ E s).at' l,eP E ⟨#[41]⟩ s1)
def nL(a bits:Int)(nm:ByteArray)(s:RdS):T×RdS:=
 bd (lG E r { s with gen:=decide (bits/4%2=1) }) fun ps s1=>bd (hH E r s1) fun x s2=>
  (T.mk 4 a (if x.2 then bits+64 else bits) 0 nm [ps,x.1],{ s2 with gen:=s.gen })
def kC(decl:Bool)(s:RdS):T×RdS:=
 let s1:=bJ E s
 let s2:=cH E ⟨#[42]⟩ s1
 let bits:Int:=(if decl then 1 else 0)+ (if isR E s1 ⟨#[42]⟩then 4 else 0)
 if(aJ E s2).k=1∧(aJ E s2).s≠⟨#[108,101,116]⟩then nL E r (aJ E s).at' bits (aJ E s2).s (bJ E s2)
 else nL E r (aJ E s).at' bits empty (if decl then iE E s2 else s2)
def uR(s:RdS):(T×Bool)×RdS:=
 let t:=aJ E s
 if t.k=3 then((T.mk 30 t.at' t.n 0 empty [],false),bJ E s)
 else if isR E s ⟨#[91]⟩then bd (r.asg true 0 (bJ E s)) fun n s1=>((n,true),eP E ⟨#[93]⟩ s1)
 else((T.mk 31 t.at' 0 0 t.s [],false),if rQ t then bJ E s else iE E s)
def vU(t:Tok)(s:RdS):T×RdS:=
 if mL s t=true∧sgn (ahR E 1 s) ⟨#[58]⟩=false then
  let x:=T.mk 34 t.at' 0 0 t.s []
  let s1:=bJ E s
  if isR E s1 ⟨#[61]⟩then bd (r.asg true 0 (bJ E s1)) fun v s2=>(nd 62 t.at' [T.mk 31 t.at' 0 0 t.s [],nd 63 t.at' [x,v]],s2)
  else(nd 62 t.at' [T.mk 31 t.at' 0 0 t.s [],x],s1)
 else bd (uR E r s) fun k s1=>bd (jJ E r (eP E ⟨#[58]⟩ s1)) fun v s2=>(T.mk 62 t.at' 0 (if k.2 then 1 else 0) empty [k.1,v],s2)
def qE:Nat→List T→RdS→List T×RdS
 |0,acc,s=>(acc,s)
 | f +1,acc,s=>
   if s.e=0∧isR E s ⟨#[125]⟩=false then
    if isR E s ⟨#[46,46,46]⟩then
     let s1:=bJ E s
     let x:=aJ E s1
     (acc++[nd 64 (aJ E s).at' [T.mk 34 x.at' 0 0 x.s []]],bJ E (if mL s1 x then s1 else iE E s1))
    else bd (vU E r (aJ E s) s) fun t s1=>if isR E s1 ⟨#[44]⟩then qE f (acc++[t]) (bJ E s1)else(acc++[t],s1)
   else(acc,s)
def uC(s:RdS):T×RdS:=bd (qE E r (E.ts.length+1) [] (bJ E s)) fun l s1=>(nd 61 (aJ E s).at' l,eP E ⟨#[125]⟩ s1)
def FY:Nat→List T→RdS→List T×RdS
 |0,acc,s=>(acc,s)
 | f+1,acc,s=>
   if s.e=0∧isR E s ⟨#[93]⟩=false then
    if isR E s ⟨#[44]⟩then FY f (acc++[nd 40 (aJ E s).at' []]) (bJ E s)
    else if isR E s ⟨#[46,46,46]⟩then bd (r.tar (bJ E s)) fun t s1=>(acc++[nd 64 (aJ E s).at' [t]],s1)
    else bd (jJ E r s) fun t s1=>if isR E s1 ⟨#[44]⟩then FY f (acc++[t]) (bJ E s1)else(acc++[t],s1)
   else(acc,s)
def OL(s:RdS):T×RdS:=bd (FY E r (E.ts.length+1) [] (bJ E s)) fun l s1=>(nd 60 (aJ E s).at' l,eP E ⟨#[93]⟩ s1)
def tL(s:RdS):T×RdS:=
 let t:=aJ E s
 if mL s t then(T.mk 34 t.at' 0 0 t.s [],bJ E s)else if isR E s ⟨#[91]⟩then OL E r s else if isR E s ⟨#[123]⟩then uC E r s else(T.zero,iE E s)
def uS(b:Bool)(s:RdS):T×RdS:=
 let s1:=bJ E s
 let t:=aJ E s1
 if isR E s1 ⟨#[42]⟩=true∧t.line=false then bd (r.asg b 0 (bJ E s1)) fun v s2=>(T.mk 54 (aJ E s).at' 1 0 empty [v],s2)
 else if(t.line||decide (t.k=0)||cP E s1 ⟨#[105,110]⟩||(decide (t.k=6)&&decide (t.n=1))||isR E s1 ⟨#[41]⟩||isR E s1 ⟨#[93]⟩||isR E s1 ⟨#[125]⟩||isR E s1 ⟨#[44]⟩||isR E s1 ⟨#[59]⟩||isR E s1 ⟨#[58]⟩)=true then(nd 54 (aJ E s).at' [],s1)
 else bd (r.asg b 0 s1) fun v s2=>(nd 54 (aJ E s).at' [v],s2)
def uX(b:Bool)(s:RdS):T×RdS:=
 let t:=aJ E s
 bd (if sgn t ⟨#[40]⟩then lG E r { s with gen:=false }else(nd 5 t.at' [T.mk 34 t.at' 0 0 t.s []],{ bJ E s with gen:=false })) fun ps s1=>
  let s2:=eP E ⟨#[61,62]⟩ s1
  if isR E s2 ⟨#[123]⟩then bd (hH E r s2) fun x s3=>(T.mk 4 t.at' (if x.2 then 66 else 2) 0 empty [ps,x.1],{ s3 with gen:=s.gen })
  else bd (r.asg b 0 s2) fun v s3=>(T.mk 4 t.at' 130 0 empty [ps,v],{ s3 with gen:=s.gen })
def zH(b:Bool)(s:RdS):T×RdS:=
 bd (r.clb b 1 false false s) fun c s1=>
  if s1.e=0∧isR E s1 ⟨#[63]⟩=true then bd (r.asg true 0 (bJ E s1)) fun a s2=>bd (r.asg b 0 (eP E ⟨#[58]⟩ s2)) fun d s3=>(nd 47 c.1.at' [c.1,a,d],s3)
  else(c.1,s1)
def wZ(b:Bool)(s0:RdS):T×RdS:=
 if(s0.gen&&mZ E s0 ⟨#[121,105,101,108,100]⟩)=true then uS E r b s0
 else if sJ E s0 then uX E r b s0
 else bd (zH E r b s0) fun n s1=>
  let op:=aJ E s1
  if s1.e=0∧pL op=true then
   bd (if op.s=⟨#[61]⟩then iY E n (wE E s0.i s1) s1 else(n,if eW n then s1 else iF E n.at' 24 s1)) fun n2 s2=>
    if s2.e=0 then bd (r.asg b 0 (bJ E s2)) fun v s3=>(T.mk 46 n2.at' 0 0 op.s [n2,v],s3)else(n2,s2)
  else(n,s1)
def uJ(b:Bool)(as' :Int)(s:RdS):T×RdS:=wZ E r b { s with bg:=s.i,as' :=as' }
def uI(b:Bool)(least:Int):Nat→T→Bool→Bool→RdS→(T×Bool×Bool)×RdS
 |0,n,no,lg,s=>((n,no,lg),s)
 | f+1,n,no,lg,s=>
   if s.e≠0 then((n,no,lg),s)
   else if eI E b s<least∨eI E b s=0 then((n,no,lg),s)
   else if(eI E b s=1∧lg=true)∨((eI E b s=2∨eI E b s=3)∧no=true)then((n,no,lg),iE E s)
   else bd (r.clb b (eI E b s+1) (no||decide (eI E b s=1)) (lg||decide (eI E b s=2)||decide (eI E b s=3)) (bJ E s)) fun x s1=>
    uI b least f (T.mk (if eI E b s≤3 then 45 else 44) n.at' 0 0 (aJ E s).s [n,x.1]) x.2.1 x.2.2 s1
def AJ(b:Bool)(least:Int)(no lg:Bool)(s:RdS):(T×Bool×Bool)×RdS:=bd (r.una s) fun n s1=>uI E r b least (E.ts.length+1) n no lg s1
def mJ(n:T)(s:RdS):T×RdS:=if(aJ E s).k=1∨(aJ E s).k=2 then(T.mk 51 n.at' 0 0 (aJ E s).s [n],bJ E s)else(n,iE E s)
def nX(n:T)(s:RdS):T×RdS:=bd (gN E r true (bJ E s)) fun k s1=>(nd 52 n.at' [n,k],eP E ⟨#[93]⟩ s1)
def wH:Nat→List T→RdS→List T×RdS
 |0,acc,s=>(acc,s)
 | f +1,acc,s=>
   if s.e=0∧isR E s ⟨#[41]⟩=false then
    bd (if isR E s ⟨#[46,46,46]⟩then bd (r.asg true 0 (bJ E s)) fun v s1=>(nd 41 (aJ E s).at' [v],s1)else r.asg true 0 s) fun v s1=>
     if isR E s1 ⟨#[44]⟩then wH f (acc++[v]) (bJ E s1)else(acc++[v],s1)
   else(acc,s)
def tD(s:RdS):List T×RdS:=bd (wH E r (E.ts.length+1) [] (eP E ⟨#[40]⟩ s)) fun l s1=>(l,eP E ⟨#[41]⟩ s1)
def wD(n:T)(s:RdS):T×RdS:=bd (tD E r s) fun l s1=>(nd 49 n.at' (n::l),s1)
def mN:Nat→Bool→List T→RdS→List T×RdS
 |0,_,acc,s=>(acc,s)
 | f+1,o,acc,s=>
   if s.e=0∧o=true then bd (gN E r true s) fun e s1=>
    let t:=aJ E s1
    if t.k=6∧t.n=1 then mN f t.op (acc++[e,T.mk 31 t.at' 0 0 t.s []]) (bJ E s1)else(acc,iE E s1)
   else(acc,s)
def nK(s:RdS):T×RdS:=
 let t:=aJ E s
 bd (mN E r (E.ts.length+1) t.op [T.mk 31 t.at' 0 0 t.s []] (bJ E s)) fun l s1=>(nd 36 t.at' l,s1)
def oT:Nat→Int→List T→RdS→(Int×List T)×RdS
 |0,p,acc,s=>((p,acc),s)
 | f+1,p,acc,s=>bd (r.asg true 1 s) fun v s1=>
   let p1:=if p<0 then lR s.i s1 else p
   if s1.e=0∧isR E s1 ⟨#[44]⟩=true then oT f p1 (acc++[v]) (bJ E s1)else((p1,acc++[v]),s1)
def nO(s:RdS):T×RdS:=
 let s1:=bJ E s
 if isR E s1 ⟨#[41]⟩then(T.zero,iE E (bJ E s1))
 else bd (oT E r (E.ts.length+1) (-1) [] s1) fun x s2=>
  let s3:=eP E ⟨#[41]⟩ s2
  (match x.2 with|[a]=>a|l=>nd 48 (l.headD T.zero).at' l,if 0≤x.1 then iF E x.1 23 s3 else s3)
def sL:Nat→Int→List T→RdS→(Int×List T)×RdS
 |0,p,acc,s=>((p,acc),s)
 | f +1,p,acc,s=>
   if s.e=0∧isR E s ⟨#[93]⟩=false then
    if isR E s ⟨#[44]⟩then sL f p (acc++[nd 40 (aJ E s).at' []]) (bJ E s)
    else
     let s1:=cH E ⟨#[46,46,46]⟩ s
     bd (r.asg true 1 s1) fun v s2=>
      let p1:=if p<0 then lR s1.i s2 else p
      let v1:=if isR E s ⟨#[46,46,46]⟩then nd 41 (aJ E s).at' [v]else v
      if isR E s2 ⟨#[44]⟩then sL f p1 (acc++[v1]) (bJ E s2)else((p1,acc++[v1]),s2)
   else((p,acc),s)
def sK(s:RdS):(T×Int)×RdS:=bd (sL E r (E.ts.length+1) (-1) [] (bJ E s)) fun x s1=>((nd 37 (aJ E s).at' x.2,x.1),eP E ⟨#[93]⟩ s1)
def oL(a:Int)(c:Bool)(k:T)(bits:Int)(s:RdS):T×RdS:=bd (nL E r a bits empty s) fun f s1=>(T.mk 39 a 5 (if c then 1 else 0) empty [k,f],s1)
def nP(a:Int)(get:Bool)(s:RdS):T×RdS:=
 bd (uR E r s) fun k s1=>
  let s2:RdS:={ s1 with gen:=false }
  bd (if get then([],eP E ⟨#[40]⟩ s2)else bd (jJ E r (eP E ⟨#[40]⟩ s2)) fun t s3=>([t],s3)) fun ps s3=>
   bd (hH E r (eP E ⟨#[41]⟩ s3)) fun x s4=>
    (T.mk 39 a (if get then 1 else 2) (if k.2 then 1 else 0) empty [k.1,T.mk 4 a ((if get then 16 else 32)+ (if x.2 then 64 else 0)) 0 empty [nd 5 (aJ E s2).at' ps,x.1]],{ s4 with gen:=s1.gen })
def nM(s:RdS):(T×Int)×RdS:=
 let t:=aJ E s
 if isR E s ⟨#[46,46,46]⟩then bd (r.asg true 1 (bJ E s)) fun v s1=>((T.mk 39 t.at' 4 0 empty [v],lR (bJ E s).i s1),s1)
 else if(mZ E s ⟨#[103,101,116]⟩||mZ E s ⟨#[115,101,116]⟩)=true∧rQ (ahR E 1 s)=true then bd (nP E r t.at' (decide (t.s=⟨#[103,101,116]⟩)) (bJ E s)) fun n s1=>((n,-1),s1)
 else if isR E s ⟨#[42]⟩then bd (uR E r (bJ E s)) fun k s1=>bd (oL E r t.at' k.2 k.1 12 s1) fun n s2=>((n,-1),s2)
 else if mL s t=true∧(sgn (ahR E 1 s) ⟨#[44]⟩||sgn (ahR E 1 s) ⟨#[125]⟩||sgn (ahR E 1 s) ⟨#[61]⟩)=true then
  let s1:=bJ E s
  if isR E s1 ⟨#[61]⟩then bd (r.asg true 0 (bJ E s1)) fun v s2=>((T.mk 39 t.at' 3 0 empty [T.mk 31 t.at' 0 0 t.s [],v],(aJ E s1).at'),s2)
  else((T.mk 39 t.at' 3 0 empty [T.mk 31 t.at' 0 0 t.s []],-1),s1)
 else bd (uR E r s) fun k s1=>
  if isR E s1 ⟨#[40]⟩then bd (oL E r t.at' k.2 k.1 8 s1) fun n s2=>((n,-1),s2)
  else bd (r.asg true 1 (eP E ⟨#[58]⟩ s1)) fun v s2=>((T.mk 39 t.at' 0 (if k.2 then 1 else 0) empty [k.1,v],lR (eP E ⟨#[58]⟩ s1).i s2),s2)
def qA:Nat→Int→List T→RdS→(Int×List T)×RdS
 |0,p,acc,s=>((p,acc),s)
 | f+1,p,acc,s=>
   if s.e=0∧isR E s ⟨#[125]⟩=false then bd (nM E r s) fun k s1=>
    let p1:=if p<0 then k.2 else p
    if isR E s1 ⟨#[44]⟩then qA f p1 (acc++[k.1]) (bJ E s1)else((p1,acc++[k.1]),s1)
   else((p,acc),s)
def oY(s:RdS):(T×Int)×RdS:=bd (qA E r (E.ts.length+1) (-1) [] (bJ E s)) fun x s1=>((nd 38 (aJ E s).at' x.2,x.1),eP E ⟨#[125]⟩ s1)
def pG(s:RdS):T×RdS:=
 let as' :Int:=if s.bg=s.i then s.as' else 0
 bd (if isR E s ⟨#[91]⟩then sK E r s else oY E r s) fun x s1=>
  if s1.e=0∧0≤x.2 then
   let ok:=isR E s1 ⟨#[61]⟩||(decide (as' =1)&&(isR E s1 ⟨#[44]⟩||isR E s1 ⟨#[93]⟩||isR E s1 ⟨#[125]⟩||isR E s1 ⟨#[41]⟩))||(decide (as' =2)&&kJ E s1)
   let s2:=if ok then s1 else iF E x.2 23 s1
   (x.1,{ s2 with lf:=s.i,lt:=s2.i,la:=x.2 })
  else(x.1,s1)
def lQ(s:RdS):T×RdS:=
 let t:=aJ E s
 if t.k=3 then(T.mk 30 t.at' t.n 0 empty [],bJ E s)else if t.k=4 then(T.mk 31 t.at' 0 0 t.s [],bJ E s)
 else if cP E s ⟨#[116,114,117,101]⟩then(T.mk 32 t.at' 1 0 empty [],bJ E s)else if cP E s ⟨#[102,97,108,115,101]⟩then(nd 32 t.at' [],bJ E s)
 else if cP E s ⟨#[110,117,108,108]⟩then(nd 33 t.at' [],bJ E s)else if cP E s ⟨#[116,104,105,115]⟩then(nd 35 t.at' [],bJ E s)
 else if mL s t then(T.mk 34 t.at' 0 0 t.s [],bJ E s)else if cP E s ⟨#[102,117,110,99,116,105,111,110]⟩then kC E r false s
 else if t.k=6∧t.n=0 then nK E r s else if isR E s ⟨#[40]⟩then nO E r s
 else if(isR E s ⟨#[91]⟩||isR E s ⟨#[123]⟩)=true then pG E r s else(nd 0 t.at' [],iE E s)
def lI:Nat→T→Bool→RdS→T×RdS
 |0,n,_,s=>(n,s)
 | f+1,n,o,s=>
   if s.e≠0 then(n,s)
   else if isR E s ⟨#[46]⟩then bd (mJ E n (bJ E s)) fun k s1=>lI f k o s1
   else if isR E s ⟨#[91]⟩then bd (nX E r n s) fun k s1=>lI f k o s1
   else if isR E s ⟨#[40]⟩then bd (wD E r n s) fun k s1=>lI f k o s1
   else if isR E s ⟨#[63,46]⟩then
    let s1:=bJ E s
    bd (if isR E s1 ⟨#[91]⟩then nX E r n s1 else if isR E s1 ⟨#[40]⟩then wD E r n s1 else mJ E n s1) fun k s2=>lI f (GP k) true s2
   else if(aJ E s).k=6∧(aJ E s).n=0 then(n,iE E s)
   else(if o then nd 53 n.at' [n]else n,s)
def wB(s:RdS):T×RdS:=bd (if cP E s ⟨#[110,101,119]⟩then r.fre s else lQ E r s) fun n s1=>lI E r (E.ts.length+1) n false s1
def pU:Nat→T→RdS→T×RdS
 |0,n,s=>(n,s)
 |f+1,n,s=>if s.e=0∧(isR E s ⟨#[46]⟩||isR E s ⟨#[91]⟩)=true then bd (if isR E s ⟨#[46]⟩then mJ E n (bJ E s)else nX E r n s) fun k s1=>pU f k s1 else(n,s)
def yB(s:RdS):T×RdS:=
 let s1:=bJ E s
 bd (if cP E s1 ⟨#[110,101,119]⟩then r.fre s1 else lQ E r s1) fun f s2=>bd (pU E r (E.ts.length+1) f s2) fun g s3=>
  if isR E s3 ⟨#[40]⟩then bd (tD E r s3) fun l s4=>(nd 50 (aJ E s).at' (g::l),s4)
  else(nd 50 (aJ E s).at' [g],if isR E s3 ⟨#[63,46]⟩=true∨(aJ E s3).k=6∧(aJ E s3).n=0 then iE E s3 else s3)
def xO(s:RdS):T×RdS:=
 let t:=aJ E s
 if(cP E s ⟨#[100,101,108,101,116,101]⟩||cP E s ⟨#[118,111,105,100]⟩||cP E s ⟨#[116,121,112,101,111,102]⟩||isR E s ⟨#[43]⟩||isR E s ⟨#[45]⟩||isR E s ⟨#[33]⟩||isR E s ⟨#[126]⟩)=true then bd (r.una (bJ E s)) fun k s1=>(T.mk 42 t.at' 0 0 t.s [k],s1)
 else if(isR E s ⟨#[43,43]⟩||isR E s ⟨#[45,45]⟩)=true then bd (r.una (bJ E s)) fun k s1=>(T.mk 43 t.at' 1 0 t.s [k],DA E k s1)
 else bd (wB E r s) fun n s1=>
  if(isR E s1 ⟨#[43,43]⟩||isR E s1 ⟨#[45,45]⟩)=true∧(aJ E s1).line=false∧s1.e=0 then(T.mk 43 n.at' 0 0 (aJ E s1).s [n],DA E n (bJ E s1))else(n,s1)
def nJ(s:RdS):T×RdS:=bd (gN E r true (eP E ⟨#[40]⟩ s)) fun e s1=>(e,eP E ⟨#[41]⟩ s1)
def pB(s:RdS):T×RdS:=
 bd (nJ E r (bJ E s)) fun c s1=>bd (r.stm false s1) fun a s2=>
  if cP E s2 ⟨#[101,108,115,101]⟩then bd (r.stm false (bJ E s2)) fun b s3=>(nd 9 (aJ E s).at' [c,a,b],s3)else(nd 9 (aJ E s).at' [c,a],s2)
def doM(s:RdS):T×RdS:=
 bd (r.stm false (bJ E s)) fun k s1=>bd (nJ E r (bJ E (if cP E s1 ⟨#[119,104,105,108,101]⟩then s1 else iE E s1))) fun c s2=>(nd 14 (aJ E s).at' [k,c],cH E ⟨#[59]⟩ s2)
def sX(w:ByteArray)(s:RdS):T×RdS:=
 let s1:=bJ E s
 let t:=aJ E s1
 if w=⟨#[99,111,110,116,105,110,117,101]⟩∨w=⟨#[98,114,101,97,107]⟩then
  let op:Int:=if w=⟨#[99,111,110,116,105,110,117,101]⟩then 16 else 15
  if t.k=1∧t.line=false then(T.mk op (aJ E s).at' 0 0 t.s [],rJ E (bJ E s1))else(nd op (aJ E s).at' [],rJ E s1)
 else if w=⟨#[114,101,116,117,114,110]⟩then
  if t.line=false∧isR E s1 ⟨#[59]⟩=false∧isR E s1 ⟨#[125]⟩=false∧t.k≠0 then bd (gN E r true s1) fun k s2=>(nd 17 (aJ E s).at' [k],rJ E s2)else(nd 17 (aJ E s).at' [],rJ E s1)
 else bd (gN E r true (if t.line then iE E s1 else s1)) fun k s2=>(nd 18 (aJ E s).at' [k],rJ E s2)
def sH:Nat→Bool→List T→RdS→(List T×Bool)×RdS
 |0,_,acc,s=>((acc,true),s)
 | f+1,o,acc,s=>
   if s.e=0∧isR E s ⟨#[125]⟩=false then
    if cP E s ⟨#[99,97,115,101]⟩then bd (gN E r true (bJ E s)) fun c s1=>bd (rC E r true (eP E ⟨#[58]⟩ s1)) fun x s2=>sH f o (acc++[nd 22 (aJ E s).at' (c::x.1)]) s2
    else if cP E s ⟨#[100,101,102,97,117,108,116]⟩=true∧o=false then bd (rC E r true (eP E ⟨#[58]⟩ (bJ E s))) fun x s2=>sH f true (acc++[T.mk 22 (aJ E s).at' 1 0 empty x.1]) s2
    else((acc,false),iE E s)
   else((acc,true),s)
def wC(s:RdS):T×RdS:=
 bd (nJ E r (bJ E s)) fun b s1=>bd (sH E r (E.ts.length+1) false [b] (eP E ⟨#[123]⟩ s1)) fun x s2=>(nd 21 (aJ E s).at' x.1,if x.2 then eP E ⟨#[125]⟩ s2 else s2)
def FW(s:RdS):T×RdS:=
 bd (hH E r (bJ E s)) fun b s1=>
  bd (if cP E s1 ⟨#[99,97,116,99,104]⟩then
      let s2:=bJ E s1
      bd (if isR E s2 ⟨#[40]⟩then bd (r.tar (bJ E s2)) fun t s3=>(t,eP E ⟨#[41]⟩ s3)else(kI E s2,s2)) fun t s3=>bd (hH E r s3) fun k s4=>((nd 20 (aJ E s1).at' [t,k.1],kI E s4),s4)
   else((kI E s1,kI E s1),s1)) fun x s5=>
  if cP E s5 ⟨#[102,105,110,97,108,108,121]⟩then bd (hH E r (bJ E s5)) fun l s6=>(nd 19 (aJ E s).at' [b.1,x.1,l.1],s6)
  else(nd 19 (aJ E s).at' [b.1,x.1,x.2],if x.1.op=7 then iE E s5 else s5)
def tB(b hd:Bool)(s:RdS):T×RdS:=
 bd (r.tar s) fun t s1=>
  if isR E s1 ⟨#[61]⟩then bd (r.asg b 0 (bJ E s1)) fun v s2=>(nd 3 t.at' [t,v],s2)
  else(nd 3 t.at' [t],if t.op≠34∧(hd&&kJ E s1)=false then iE E s1 else s1)
def sN(b:Bool):Nat→List T→RdS→List T×RdS
 |0,acc,s=>(acc,s)
 |f+1,acc,s=>bd (tB E r b (!b&&acc.isEmpty) s) fun d s1=>if s1.e=0∧isR E s1 ⟨#[44]⟩=true then sN b f (acc++[d]) (bJ E s1)else(acc++[d],s1)
def uM(b:Bool)(s:RdS):T×RdS:=
 let t:=aJ E s
 bd (sN E r b (E.ts.length+1) [] (bJ E s)) fun l s1=>(T.mk 2 t.at' (if t.s=⟨#[108,101,116]⟩then 1 else if t.s=⟨#[99,111,110,115,116]⟩then 2 else 0) 0 empty l,s1)
def pS(x:ByteArray)(s:RdS):T×RdS:=if isR E s x then(kI E s,s)else gN E r true s
def firstM(s:RdS):(T×Bool)×RdS:=
 if isR E s ⟨#[59]⟩then((kI E s,false),s)
 else if(cP E s ⟨#[118,97,114]⟩||cP E s ⟨#[108,101,116]⟩||cP E s ⟨#[99,111,110,115,116]⟩)=true then bd (uM E r false s) fun n s1=>((n,decide (n.kids.length=1)&&decide ((n.kids.headD T.zero).kids.length=1)),s1)
 else bd (r.asg false 2 s) fun e s1=>
  if s1.e=0∧kJ E s1=true then
   let s2:=if e.op=46 then iF E e.at' 24 s1 else s1
   bd (iY E e (wE E s.i s2) s2) fun p s3=>((p,true),s3)
  else bd (oC E r false e s1) fun g s2=>((nd 8 g.at' [g],false),s2)
def xK(s:RdS):T×RdS:=
 bd (firstM E r (eP E ⟨#[40]⟩ (bJ E s))) fun f s1=>
  if(f.2&&kJ E s1)=true then
   bd (if mZ E s1 ⟨#[111,102]⟩then r.asg true 0 (bJ E s1)else gN E r true (bJ E s1)) fun e s2=>bd (r.stm false (eP E ⟨#[41]⟩ s2)) fun k s3=>
    (nd (if mZ E s1 ⟨#[111,102]⟩then 12 else 11) (aJ E s).at' [f.1,e,k],s3)
  else bd (pS E r ⟨#[59]⟩ (eP E ⟨#[59]⟩ s1)) fun c s2=>bd (pS E r ⟨#[41]⟩ (eP E ⟨#[59]⟩ s2)) fun st s3=>bd (r.stm false (eP E ⟨#[41]⟩ s3)) fun k s4=>(nd 10 (aJ E s).at' [f.1,c,st,k],s4)
def oW(w:ByteArray)(many:Bool)(s:RdS):(T×Bool)×RdS:=
 if w=⟨#[118,97,114]⟩∨w=⟨#[99,111,110,115,116]⟩∨w=⟨#[108,101,116]⟩then
  if w≠⟨#[118,97,114]⟩∧many=false then((T.zero,true),iE E s)else bd (uM E r true s) fun n s1=>((n,true),rJ E s1)
 else if w=⟨#[102,117,110,99,116,105,111,110]⟩then(if many then bd (kC E r true s) fun n s1=>((n,true),s1)else((T.zero,true),iE E s))
 else if w=⟨#[105,102]⟩then bd (pB E r s) fun n s1=>((n,true),s1)
 else if w=⟨#[119,104,105,108,101]⟩then bd (nJ E r (bJ E s)) fun c s1=>bd (r.stm false s1) fun k s2=>((nd 13 (aJ E s).at' [c,k],true),s2)
 else if w=⟨#[100,111]⟩then bd (doM E r s) fun n s1=>((n,true),s1)
 else if w=⟨#[102,111,114]⟩then bd (xK E r s) fun n s1=>((n,true),s1)
 else if w=⟨#[99,111,110,116,105,110,117,101]⟩∨w=⟨#[98,114,101,97,107]⟩∨w=⟨#[114,101,116,117,114,110]⟩∨w=⟨#[116,104,114,111,119]⟩then bd (sX E r w s) fun n s1=>((n,true),s1)
 else if w=⟨#[115,119,105,116,99,104]⟩then bd (wC E r s) fun n s1=>((n,true),s1)
 else if w=⟨#[116,114,121]⟩then bd (FW E r s) fun n s1=>((n,true),s1)
 else((T.zero,false),s)
def xM(s:RdS):T×RdS:=bd (gN E r true s) fun e s1=>(nd 8 e.at' [e],rJ E s1)
def xE(many:Bool)(s:RdS):T×RdS:=
 let t:=aJ E s
 if isR E s ⟨#[123]⟩then bd (hH E r s) fun x s1=>(x.1,s1)
 else if isR E s ⟨#[59]⟩then(nd 7 t.at' [],bJ E s)
 else if t.k=2∨cP E s ⟨#[108,101,116]⟩=true then bd (oW E r t.s many s) fun x s1=>if x.2 then(x.1,s1)else xM E r s1
 else if t.k=1∧sgn (ahR E 1 s) ⟨#[58]⟩=true then bd (r.stm false (bJ E (bJ E s))) fun k s1=>(T.mk 23 t.at' 0 0 t.s [k],s1)
 else xM E r s
end
def sB(E:TkE):Nat→RdR
 |0=>⟨fun _ _ s=>(T.zero,s),fun _ _ a b s=>((T.zero,a,b),s),fun s=>(T.zero,s),fun s=>(T.zero,s),fun _ s=>(T.zero,s),fun s=>(T.zero,s)⟩
 |n+1=>⟨uJ E (sB E n),AJ E (sB E n),xO E (sB E n),yB E (sB E n),xE E (sB E n),tL E (sB E n)⟩
def iH(ts:List Tok):TkE:=⟨ts,nW ts 0 (ts.map fun _=> -1) []⟩
def rs0:RdS:=⟨0,false,0,0,0,0,-1,0,0⟩
def BX:T→Nat|T.mk _ _ _ _ _ ks=>1+ (ks.attach.map fun⟨k,_⟩=>BX k).foldl max 0
def uU(E:TkE)(n:T)(s:RdS):T×Int×Int:=
 let s1:=if s.e=0∧(aJ E s).k≠0 then iE E s else s
 if s1.e≠0 then(T.zero,s1.at',s1.e)else if 200<BX n then(T.zero,0,10)else(n,0,0)
def nZ(E:TkE):Nat:=8*E.ts.length+8
def lP(ts:List Tok):T×Int×Int:=
 let E:=iH ts
 bd (rC E (sB E (nZ E)) false rs0) fun x s=>uU E (T.mk 1 0 (if x.2 then 1 else 0) 0 empty x.1) s
def aAa(ts:List Tok):T×Int×Int:=
 let E:=iH ts
 bd (gN E (sB E (nZ E)) true rs0) fun x s=>uU E x s
end
section
open Go.RowKit Go.Vcg
def wtT:T→Nat|T.mk o _ _ _ _ ks=>(if o=39 then 3 else 1)+ (ks.attach.map fun⟨k,_⟩=>wtT k).sum
theorem kE(o a n m:Int)(s:ByteArray)(ks:List T):wtT (T.mk o a n m s ks)=(if o=39 then 3 else 1)+ (ks.map wtT).sum:=by rw[wtT];simp
theorem tF(t:T):1≤wtT t:=by
 obtain⟨o,a,n,m,s,ks⟩:=t;rw[kE];split<;>omega
theorem AO(t:T):wtT t=(if t.op=39 then 3 else 1)+ (t.kids.map wtT).sum:=by
 obtain⟨o,a,n,m,s,ks⟩:=t;exact kE ..
theorem zK(l m:List T):((l++m).map wtT).sum=(l.map wtT).sum+ (m.map wtT).sum:=by rw[aE,List.sum_append]
theorem cX(a:T)(m:List T):((a::m).map wtT).sum=wtT a+ (m.map wtT).sum:=by rw[bE,iB]
theorem jL:(([]:List T).map wtT).sum=0:=rfl
theorem aAu:wtT T.zero=1:=by unfold T.zero;rw[kE];simp
structure EOk (E:TkE) (L:Int):Prop where
 len:0<E.ts.length
 last:∀k,(tk E k).k≠0→k+1<E.ts.length
 pos:∀k,0≤(tk E k).at' ∧(tk E k).at' ≤L
 lo:0≤L
structure Mv (E:TkE) (L:Int) (s s' :RdS):Prop where
 le:s.i≤s'.i
 lt:s'.i<E.ts.length
 er:s.e≠0→s'.e=s.e∧s'.at' =s.at'
 ap:s.e=0→s'.e≠0→0≤s'.at' ∧s'.at' ≤L
 la:0≤s.la∧s.la≤L→0≤s'.la∧s'.la≤L
 bgm:s.bg≤s.i→s'.bg≤s'.i
variable{E:TkE}{L:Int}{s s' s0 s1 s2:RdS}
theorem Mv.refl(h:s.i<E.ts.length):Mv E L s s:=⟨aP _,h,fun _=>⟨rfl,rfl⟩,fun h g=>absurd h g,id,id⟩
theorem Mv.trans(h:Mv E L s s1)(g:Mv E L s1 s2):Mv E L s s2 where
 le:=bO h.le g.le
 lt:=g.lt
 er x:=by obtain⟨a,b⟩:=h.er x;obtain⟨c,d⟩:=g.er (by rw[a];exact x);exact⟨c.trans a,d.trans b⟩
 ap x y:=by
  by_cases h1:s1.e=0
  ·exact g.ap h1 y
  ·obtain⟨-,d⟩:=g.er h1;rw[d];exact h.ap x h1
 la x:=g.la (h.la x)
 bgm x:=g.bgm (h.bgm x)
theorem Mv.gn{g:Bool}(h:Mv E L s s1):Mv E L s { s1 with gen:=g }:=⟨h.le,h.lt,h.er,h.ap,h.la,h.bgm⟩
theorem Mv.ok(h:Mv E L s s1)(e:s1.e=0):s.e=0:=Classical.byContradiction fun g=>g ((h.er g).1▸e)
theorem zX:(bJ E s).e=s.e:=by unfold bJ;split<;>rfl
theorem nD{a e:Int}(h:e≠0):(iF E a e s).e≠0:=by
 unfold iF;dsimp only;split
 ·exact h
 ·assumption
theorem AE:(iE E s).e≠0:=nD (by decide)
section
variable(hE:EOk E L)
include hE
theorem PG(h:(aJ E s).k≠0):(bJ E s).i=s.i+1:=by unfold bJ;rw[if_pos (hE.last _ h)]
omit hE in
theorem CQ:s.i≤(bJ E s).i:=by unfold bJ;split;exact Nat.le_succ _;exact aP _
omit hE in
theorem aGd{t:Tok}{x:ByteArray}(h:sgn t x=true):t.k≠0:=by
 unfold sgn at h;rw[aM,decide_eq_true_eq]at h;omega
omit hE in
theorem cY{x:ByteArray}(h:isR E s x=true):(aJ E s).k≠0:=aGd h
omit hE in
theorem eC{x:ByteArray}(h:cP E s x=true):(aJ E s).k≠0:=by
 unfold cP at h;rw[aM,aY,aM,decide_eq_true_eq,decide_eq_true_eq,decide_eq_true_eq]at h;omega
omit hE in
theorem tU{x:ByteArray}(h:mZ E s x=true):(aJ E s).k≠0:=by
 unfold mZ at h;rw[aM,decide_eq_true_eq]at h;omega
omit hE in
theorem rI(h:mL s (aJ E s)=true):(aJ E s).k≠0:=by
 unfold mL at h;rw[aM,aM,decide_eq_true_eq]at h;omega
omit hE in
theorem PZ(h:kJ E s=true):(aJ E s).k≠0:=by
 unfold kJ at h;rw[aY]at h;exact h.elim tU eC
omit hE in
theorem Mv.next(h:Mv E L s s1):Mv E L s (bJ E s1):=h.trans<|by
 unfold bJ;split
 ·rename_i g;exact⟨Nat.le_succ _,g,fun _=>⟨rfl,rfl⟩,fun h g=>absurd h g,id,fun h=>Nat.le_succ_of_le h⟩
 ·exact .refl h.lt
theorem Mv.yI{a e:Int}(h:Mv E L s s1)(ha:s1.e=0→0≤a∧a≤L):Mv E L s (iF E a e s1):=by
 have hl:=hE.len;have hs:=h.lt;refine h.trans ⟨?_,?_,?_,?_,id,fun(hb:s1.bg≤s1.i)=>by show s1.bg≤E.ts.length-1;omega⟩
 ·show s1.i≤E.ts.length-1
  omega
 ·show E.ts.length-1<_
  omega
 ·intro g;unfold iF;dsimp only;rw[if_neg g,if_neg g];exact⟨rfl,rfl⟩
 ·intro g _;unfold iF;dsimp only;rw[if_pos g];exact ha g
theorem Mv.fail(h:Mv E L s s1):Mv E L s (iE E s1):=h.yI hE fun _=>hE.pos _
theorem Mv.aH2{x:ByteArray}(h:Mv E L s s1):Mv E L s (eP E x s1):=by
 unfold eP;split
 ·exact h.next
 ·exact h.fail hE
omit hE in
theorem Mv.eat{x:ByteArray}(h:Mv E L s s1):Mv E L s (cH E x s1):=by
 unfold cH;split
 ·exact h.next
 ·exact h
theorem Mv.ends(h:Mv E L s s1):Mv E L s (rJ E s1):=by
 have hl:=hE.len;have hs:=h.lt;unfold rJ;split
 ·exact h.trans ⟨by show s1.i≤min _ _;omega,by show min _ _<_;omega,fun _=>⟨rfl,rfl⟩,fun h g=>absurd h g,id,fun(hb:s1.bg≤s1.i)=>by show s1.bg≤min _ _;omega⟩
 ·split
  ·exact h
  ·exact h.fail hE
theorem aBz{x:ByteArray}:(eP E x s).e=0→(eP E x s).i=s.i+1:=by
 unfold eP;split
 ·rename_i h;intro _;exact PG hE (cY h)
 ·intro h;exact absurd h AE
end
end
end Go.Proofs.YtknieidhopbngaaGreat
