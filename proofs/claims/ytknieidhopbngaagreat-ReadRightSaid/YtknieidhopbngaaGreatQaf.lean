/- The lexer of package token: number, escape: their contracts. -/
import Derived.Test.YtknieidhopbngaaGreatQae
import Derived.LoopN
set_option maxRecDepth 20000
set_option maxHeartbeats 2000000
namespace Go.Proofs.YtknieidhopbngaaGreat
open Go.RowKit Go.Vcg
def GD(xs:List UInt8):Except Int T1:=match BO xs with
 |.error e=>.error e
 |.ok (n,m)=>.ok ⟨3,m,n,[],false⟩
theorem VD{xs:List UInt8}(h:xs.head? =some 48∧1< (cI 10 xs 0 true).2.1):GD xs=.error 22:=by
 simp[GD,BO,h]
def GF(o i:Bool)(m:Nat)(n:Int):Except Int T1:=if o=false∨i=true then .error 22 else .ok ⟨3,m,n,[],false⟩
theorem YI{xs:List UInt8}{n:Int}{c:Nat}{o:Bool}(hd:cI 10 xs 0 true=(n,c,o))(a:¬(xs.head? =some 48∧1<c))(hp:¬[48,120].isPrefixOf xs=true):GD xs=GF o (PN xs c) c n:=by
 unfold GD BO uP GF;rw[if_neg hp,hd,if_neg a];split<;>rename_i h<;>split at h<;>simp_all
theorem YH{xs:List UInt8}{n:Int}{c:Nat}{o:Bool}(a:¬(xs.head? =some 48∧1< (cI 10 xs 0 true).2.1))(hp:[48,120].isPrefixOf xs=true)(hd:cI 16 (xs.drop 2) 0 true=(n,c,o)):GD xs=GF (o&&decide (0<c)) (PN xs (c+2)) (c+2) n:=by
 unfold GD BO uP GF;rw[if_pos hp,hd,if_neg a];simp only;split<;>rename_i h<;>split at h<;>simp_all
theorem SV(s:ByteArray)(k m:Nat):PN ((bl s).drop k) m=if k+m<s.size then zZ (bAt s (k+m))||mV (bAt s (k+m))else false:=by
 unfold PN;rw[eE];split
 ·rename_i c hc;have a:=(List.getElem?_eq_some_iff.1 hc).1;rw[dU]at a;rw[if_pos a,JZ hc];rfl
 ·rename_i hc;rw[iI,dU]at hc;rw[if_neg (by omega)]
theorem SG{xs:List UInt8}{c d:UInt8}:([c,d].isPrefixOf xs=true)↔xs.take 2=[c,d]:=by
 match xs with
 |[]=>simp
 |[a]=>simp
 |a::b::r=>simp[List.isPrefixOf];constructor<;>(rintro⟨rfl,rfl⟩;exact⟨rfl,rfl⟩)
attribute [local irreducible] G GC GQ GA dV Calls IntKind.wrap Int.decLt Int.decLe
theorem LY(s:ByteArray)(hs:s.size≤65536)(k:Nat)(hk:k<s.size)(w:World)(μ:Mem)(hμ:MOk μ w):
 aO 101 #[.string s,.int .i64 k] w (.tuple #[oN (sO k (GD ((bl s).drop k))),.int .i64 (EY (GD ((bl s).drop k)))]):=by
 refine aQ Tryz.func101 rfl Tryz.ntmps101 (by simp) hμ ?_;obtain⟨b,ad,ab⟩:=sI hk;have r:((bl s).drop k).head? =some b:=by rw[kO ad];rfl
 have hzero:((bl s).drop k).head? =some 48↔bAt s k=48:=by
  rw[r,ab];constructor
  ·intro h;cases h;rfl
  ·intro h;congr 1;apply UInt8.toNat_inj.1;show b.toNat=48
   omega
 have d1:=zF s hs k (by omega) 10 (.inl rfl);have p:=fun w μ hμ=>sZ s k ⟨#[48,120]⟩ hs (by decide) (c:=decide (((bl s).drop k).take 2=[48,120])) (by rfl) w μ hμ;generalize hd:cI 10 ((bl s).drop k) 0 true=d at d1;obtain⟨n,c,o⟩:=d;have ag:k+c≤s.size:=by have:=oS 10 ((bl s).drop k) 0 true;rw[hd,bC,dU]at this;simp only at this;omega
 dsimp only at d1;by_cases hz:bAt s k=48∧1<c
 ·obtain⟨y,g⟩:=hz;rw[VD ⟨hzero.2 y,by rw[hd];exact g⟩];have hm:True:=trivial;have m:Nat:=0;try repeat' (first|refine KO ?_|refine K2 122 (fun w μc hw a=>d1 w μc hw) ?_|(refine KV (b:=by exact U2 k) (c:=?_))|refine KZ ?_|refine NB fun b=>?_)
  exact eY rfl (RG 0 rfl rfl rfl rfl rfl) (aN rfl) rfl rfl
 ·have u :¬(((bl s).drop k).head? =some 48∧1<c):=fun h=>hz ⟨hzero.1 h.1,h.2⟩;have g:(bAt s k=48∧¬1<c)∨¬bAt s k=48:=by omega
  by_cases hp:[48,120].isPrefixOf ((bl s).drop k)=true
  ·have l:=SG.1 hp;simp only[decide_eq_true l]at p;have aa:k+2≤s.size:=by have:=congrArg List.length l;rw[bZ,bC,dU]at this;simp only[aF,aL]at this;omega
   have d2:=zF s hs (k+2) aa 16 (.inr rfl);generalize q:cI 16 ((bl s).drop (k+2)) 0 true=d' at d2;obtain⟨n',c',o'⟩:=d';have ae:k+2+c' ≤s.size:=by have:=oS 16 ((bl s).drop (k+2)) 0 true;rw[q,bC,dU]at this;simp only at this;omega
   dsimp only at d2;have v:cI 16 (((bl s).drop k).drop 2) 0 true=(n',c',o'):=by rw[cF];exact q
   rw[YH (by rw[hd];exact u) hp v,SV];generalize hm:c' +2=m;have z:k+2+c' =k+m:=by omega
   rw[z]at d2;cases o' with
   | false=>
     have hE:∀i,GF (false&&decide (0<c')) i m n' =.error 22:=fun i=>by simp[GF]
     rw[hE];rcases g with⟨g1,g2⟩|g1
     all_goals
      try repeat' (first|refine KO ?_|((with_reducible apply F1 122);exact rfl;exact EN;first|exact fun w μc hw a=>d1 w μc hw|exact fun w μc hw a=>d2 w μc hw)|refine K2 95 (fun w μc hw a=>p w μc hw) ?_|(refine KV (b:=by first|exact U2 k|((with_reducible apply dR k);(iterate 4 exact rfl);omega)) (c:=?_))|refine KZ ?_|refine NB fun b=>?_)
      exact eY rfl (RG 0 rfl rfl rfl rfl rfl) (aN rfl) rfl rfl
   | true=>
     by_cases x:0<c'
     ·rw [decide_eq_true x];by_cases j:k+m<s.size
      ·rw[if_pos j];cases hl:zZ (bAt s (k+m))<;>cases hg:mV (bAt s (k+m));all_goals
        rcases g with⟨g1,g2⟩|g1
        all_goals
         try repeat' (first|refine KO ?_|((with_reducible apply F1 122);exact rfl;exact EN;first|exact fun w μc hw a=>d1 w μc hw|exact fun w μc hw a=>d2 w μc hw)|refine K2 95 (fun w μc hw a=>p w μc hw) ?_|refine K2 98 (fun w μc hw a=>lD _ hl (fQ _ _) (fR _ _) w μc hw) ?_|refine K2 100 (fun w μc hw a=>eZ _ hg (fQ _ _) (fR _ _) w μc hw) ?_|(refine KV (b:=by first|exact U2 k|exact U2 (k+m)|((with_reducible apply dR k);(iterate 4 exact rfl);omega)) (c:=?_))|refine KZ ?_|refine NB fun b=>?_)
         exact eY rfl (RG 0 rfl rfl rfl rfl rfl) (aN rfl) rfl rfl
      ·rw[if_neg j];rcases g with⟨g1,g2⟩|g1
       all_goals
        try repeat' (first|refine KO ?_|((with_reducible apply F1 122);exact rfl;exact EN;first|exact fun w μc hw a=>d1 w μc hw|exact fun w μc hw a=>d2 w μc hw)|refine K2 95 (fun w μc hw a=>p w μc hw) ?_|(refine KV (b:=by first|exact U2 k|((with_reducible apply dR k);(iterate 4 exact rfl);omega)) (c:=?_))|refine KZ ?_|refine NB fun b=>?_)
        exact eY rfl (RG 0 rfl rfl rfl rfl rfl) (aN rfl) rfl rfl
     ·have hE:∀i,GF (true&&decide (0<c')) i m n' =.error 22:=fun i=>by simp[GF,x]
      rw[hE];rcases g with⟨g1,g2⟩|g1
      all_goals
       try repeat' (first|refine KO ?_|((with_reducible apply F1 122);exact rfl;exact EN;first|exact fun w μc hw a=>d1 w μc hw|exact fun w μc hw a=>d2 w μc hw)|refine K2 95 (fun w μc hw a=>p w μc hw) ?_|(refine KV (b:=by first|exact U2 k|((with_reducible apply dR k);(iterate 4 exact rfl);omega)) (c:=?_))|refine KZ ?_|refine NB fun b=>?_)
       exact eY rfl (RG 0 rfl rfl rfl rfl rfl) (aN rfl) rfl rfl
  ·have l:¬((bl s).drop k).take 2=[48,120]:=fun h=>hp (SG.2 h);simp only[decide_eq_false l]at p;rw[YI hd u hp,SV];have hm:True:=trivial;generalize af:c=m at*;cases o with
   | false=>
     have hE:∀i,GF false i m n=.error 22:=fun i=>by simp[GF]
     rw[hE];rcases g with⟨g1,g2⟩|g1
     all_goals
      try repeat' (first|refine KO ?_|refine K2 122 (fun w μc hw a=>d1 w μc hw) ?_|refine K2 95 (fun w μc hw a=>p w μc hw) ?_|(refine KV (b:=by first|exact U2 k|((with_reducible apply dR k);(iterate 4 exact rfl);omega)) (c:=?_))|refine KZ ?_|refine NB fun b=>?_)
      exact eY rfl (RG 0 rfl rfl rfl rfl rfl) (aN rfl) rfl rfl
   | true=>
     by_cases j:k+m<s.size
     ·rw[if_pos j];cases hl:zZ (bAt s (k+m))<;>cases hg:mV (bAt s (k+m));all_goals
       rcases g with⟨g1,g2⟩|g1
       all_goals
        try repeat' (first|refine KO ?_|refine K2 122 (fun w μc hw a=>d1 w μc hw) ?_|refine K2 95 (fun w μc hw a=>p w μc hw) ?_|refine K2 98 (fun w μc hw a=>lD _ hl (fQ _ _) (fR _ _) w μc hw) ?_|refine K2 100 (fun w μc hw a=>eZ _ hg (fQ _ _) (fR _ _) w μc hw) ?_|(refine KV (b:=by first|exact U2 k|exact U2 (k+m)|((with_reducible apply dR k);(iterate 4 exact rfl);omega)) (c:=?_))|refine KZ ?_|refine NB fun b=>?_)
        exact eY rfl (RG 0 rfl rfl rfl rfl rfl) (aN rfl) rfl rfl
     ·rw[if_neg j];rcases g with⟨g1,g2⟩|g1
      all_goals
       try repeat' (first|refine KO ?_|refine K2 122 (fun w μc hw a=>d1 w μc hw) ?_|refine K2 95 (fun w μc hw a=>p w μc hw) ?_|(refine KV (b:=by first|exact U2 k|((with_reducible apply dR k);(iterate 4 exact rfl);omega)) (c:=?_))|refine KZ ?_|refine NB fun b=>?_)
       exact eY rfl (RG 0 rfl rfl rfl rfl rfl) (aN rfl) rfl rfl
end Go.Proofs.YtknieidhopbngaaGreat
namespace Go.Vcg
open Go.RowKit
section
variable{P:Program}{X:Ctx}{Q:Exit→Act→World→Prop}{μ:Mem}{l:bG}{L:List Bk}
theorem dP{c:Code}(n:Nat)(h:GC P X c (Exit.then (Code.rounds P c Q n) Q) μ l L):GC P X (.loop c) Q μ l L:=fun a w hs=>wp_loop_rounds (n+1) (h a w hs)
theorem fO{c:Code}{n:Nat}(h:GC P X c (Exit.then (Code.rounds P c Q n) Q) μ l L):GQ X (Exit.then (Code.rounds P c Q (n+1)) Q) .normal μ l L:=fun a w hs=>h a w hs
variable{ty:TypeId}{pos:String}{af:Array Edge}{gd:Option (Nat×Bool)}{ds:Option Nat}
theorem UG{p:Operand}{t u:TypeId}{k:IntKind}{x:Int}{de:TypeDesc}(hx0:ev l p=some (.int k x))(ht:P.underlying t=some de)(hu:P.underlying u=some (.int .u8))(hb:0≤x∧x≤255):Val P μ l L ⟨ds,.convert t u p,ty,pos,af,gd⟩ (.int .u8 x):=by
 have:=WT (P:=P) (μ:=μ) (L:=L) (ds:=ds) (ty:=ty) (pos:=pos) (af:=af) (gd:=gd) hx0 ht hu;rw[wrap_u8 hb]at this;exact this
end
end Go.Vcg
namespace Go.Proofs.YtknieidhopbngaaGreat
section
open Go.RowKit Go.Vcg
def aCo(k:Nat)(r:Except Int (UInt8×Nat)):List Value:=match r with
 |.ok (c,n)=>[.int .u8 c.toNat,.int .i64 ((k+n:Nat):Int),.int .i64 0]
 |.error e=>[.int .u8 0,.int .i64 k,.int .i64 e]
theorem zA(c:UInt8):∀l:List UInt8,Lib.indexByte l c<l.length∧ -1≤Lib.indexByte l c
 |[]=>by simp[Lib.indexByte]
 | b::r=>by
   have ih:=zA c r;rw[Lib.indexByte];simp only[aF];repeat' split
   all_goals omega
theorem byte_back{s:ByteArray}{k:Nat}{c:UInt8}(h:bAt s k=c.toNat):(bAt s k).toNat.toUInt8=c:=by
 rw[h];simp
attribute [local irreducible] G GC GQ GA dV Calls IntKind.wrap Int.decLt Int.decLe
theorem qC(s:ByteArray)(c:Int){v:Int}(h:Lib.indexByte (bl s) c.toNat.toUInt8=v)(w:World)(μ:Mem)(hμ:MOk μ w):
 aO 124 #[.string s,.int .u8 c] w (.int .i64 v):=by
 have:=vP s c w μ hμ;rwa[h]at this
theorem vV(s:ByteArray)(hs:s.size≤65536)(k:Nat)(hk:k≤s.size)(w:World)(μ:Mem)(hμ:MOk μ w):
 aO 123 #[.string s,.int .i64 k] w (.tuple (aCo k (vX ((bl s).drop k))).toArray):=by
 refine aQ Tryz.func123 rfl Tryz.ntmps123 (by simp) hμ ?_;have j:Nat:=0;by_cases h0:k<s.size
 ·obtain ⟨c,ae,p⟩:=sI h0;have l:=fun w μ hμ=>qC ⟨#[110,116,114,48,92,39,34,96,36]⟩ (bAt s k) (v:=Lib.indexByte oZ c) (by rw[byte_back p];rfl) w μ hμ;have z:=zA c oZ;rw[kO ae,vX];by_cases q:0≤Lib.indexByte oZ c
  ·rw[if_pos q];obtain⟨j,r⟩:∃j:Nat,Lib.indexByte oZ c=j:=⟨(Lib.indexByte oZ c).toNat,by omega⟩;have af:j<ByteArray.size ⟨#[10,9,13,0,92,39,34,96,36]⟩:=by
    show j<9
    have:=z.1;rw[r]at this;simp only[oZ,aF,aL]at this;omega
   have hE:aCo k (.ok (aDu.getD (Lib.indexByte oZ c).toNat 0,1))=[.int .u8 (bAt ⟨#[10,9,13,0,92,39,34,96,36]⟩ j),.int .i64 ((k:Int)+1),.int .i64 0]:=by rw[r];rfl
   rw[hE];try repeat' (first|refine KO ?_|refine K2 124 (fun w μc hw a=>l w μc hw) ?_|(refine KV (b:=by first|exact U2 k|((with_reducible apply CZ j);(iterate 3 exact rfl);exact r;omega)) (c:=?_))|refine KZ ?_)
   exact nH rfl (by repeat first|exact jW|refine eN (by exact aN rfl) ?_) rfl rfl
  ·rw [if_neg q];have r:True:=trivial;by_cases x:c=120
   ·have y:bAt s k=120:=by rw[p,x];rfl
    rw[if_neg (by simp[x])];by_cases h1:k+1<s.size
    ·obtain⟨g,ad,d⟩:=sI h1;have g1:=JN (bAt s (k+1));have g2:=JO (bAt s (k+1));rw[kO ad];by_cases o:lH (bAt s (k+1))<0
     ·have hE:AG (g::(bl s).drop (k+1+1))=.error 21:=by cases hr:(bl s).drop (k+1+1)<;>simp[AG,←d,o]
      rw[hE];try repeat' (first|refine KO ?_|refine K2 124 (fun w μc hw a=>l w μc hw) ?_|(refine KV (b:=by exact U2 k) (c:=?_))|refine KZ ?_)
      refine dP 2 ?_;try repeat' (first|refine KO ?_|refine K2 143 (fun w μc hw a=>rE _ (fQ _ _) (fR _ _) w μc hw) ?_|(refine KV (b:=by exact U2 (k+1)) (c:=?_))|refine KZ ?_)
      exact nH rfl (by repeat first|exact jW|refine eN (by exact aN rfl) ?_) rfl rfl
     ·by_cases h2:k+2<s.size
      ·obtain⟨h,ab,aa⟩:=sI h2;have h3:=JN (bAt s (k+2));have h4:=JO (bAt s (k+2));rw[show k+1+1=k+2 from rfl,kO ab];rw[AG,if_neg (by rw[←d];exact o),←aa,←d];by_cases u:lH (bAt s (k+2))<0
       ·rw[if_pos u];try repeat' (first|refine KO ?_|refine K2 124 (fun w μc hw a=>l w μc hw) ?_|(refine KV (b:=by exact U2 k) (c:=?_))|refine KZ ?_)
        refine dP 2 ?_;try repeat' (first|(with_reducible apply fO)|refine KO ?_|refine K2 143 (fun w μc hw a=>rE _ (fQ _ _) (fR _ _) w μc hw) ?_|(refine KV (b:=by first|exact U2 (k+1)|exact U2 (k+2)) (c:=?_))|refine KZ ?_)
        exact nH rfl (by repeat first|exact jW|refine eN (by exact aN rfl) ?_) rfl rfl
       ·rw[if_neg u];have hE:aCo k (.ok (UInt8.ofNat (lH (bAt s (k+1))*16+lH (bAt s (k+2))).toNat,3))=[.int .u8 ((0*16+lH (bAt s (k+1)))*16+lH (bAt s (k+2))),.int .i64 ((k:Int)+3),.int .i64 0]:=by simp only[aCo];congr 2;rw[UInt8.toNat_ofNat'];omega
        rw[hE];try repeat' (first|refine KO ?_|refine K2 124 (fun w μc hw a=>l w μc hw) ?_|(refine KV (b:=by exact U2 k) (c:=?_))|refine KZ ?_)
        refine dP 2 ?_;try repeat' (first|(with_reducible apply fO)|refine KO ?_|refine K2 143 (fun w μc hw a=>rE _ (fQ _ _) (fR _ _) w μc hw) ?_|(refine KV (b:=by first|exact U2 (k+1)|exact U2 (k+2)|((with_reducible apply UG);(iterate 3 exact rfl);omega)) (c:=?_))|refine KZ ?_)
        exact nH rfl (by repeat first|exact jW|refine eN (by exact aN rfl) ?_) rfl rfl
      ·rw[oA (i:=k+1+1) (by omega),AG,if_neg (by rw[←d];exact o)];try repeat' (first|refine KO ?_|refine K2 124 (fun w μc hw a=>l w μc hw) ?_|(refine KV (b:=by exact U2 k) (c:=?_))|refine KZ ?_)
       refine dP 2 ?_;try repeat' (first|(with_reducible apply fO)|refine KO ?_|refine K2 143 (fun w μc hw a=>rE _ (fQ _ _) (fR _ _) w μc hw) ?_|(refine KV (b:=by exact U2 (k+1)) (c:=?_))|refine KZ ?_)
       exact nH rfl (by repeat first|exact jW|refine eN (by exact aN rfl) ?_) rfl rfl
    ·rw[oA (i:=k+1) (by omega),AG];try repeat' (first|refine KO ?_|refine K2 124 (fun w μc hw a=>l w μc hw) ?_|(refine KV (b:=by exact U2 k) (c:=?_))|refine KZ ?_)
     refine dP 2 ?_;try repeat' (refine KZ ?_)
     exact nH rfl (by repeat first|exact jW|refine eN (by exact aN rfl) ?_) rfl rfl
   ·have y:¬bAt s k=120:=by
     rw[p];intro h;apply x;apply UInt8.toNat_inj.1;show c.toNat=120
     omega
    rw[if_pos x];try repeat' (first|refine KO ?_|refine K2 124 (fun w μc hw a=>l w μc hw) ?_|(refine KV (b:=by exact U2 k) (c:=?_)))
    exact nH rfl (by repeat first|exact jW|refine eN (by exact aN rfl) ?_) rfl rfl
 ·rw[oA (by omega),vX];have r:True:=trivial;have l:True:=trivial;try repeat' (refine KO ?_)
  exact nH rfl (by repeat first|exact jW|refine eN (by exact aN rfl) ?_) rfl rfl
end
section
open Go.RowKit Go.Vcg
def sM(o:List UInt8)(m:Nat)(x:Except Int (List UInt8×Nat)):Except Int (List UInt8×Nat):=match x with
 |.ok (p,n)=>.ok (o++p,m+n)
 |.error e=>.error e
theorem wI(x:Except Int (List UInt8×Nat)):sM [] 0 x=x:=by
 rcases x with e|⟨p,n⟩<;>simp[sM]
theorem oV(o:List UInt8)(m:Nat)(c:UInt8)(x:Except Int (List UInt8×Nat)):sM o m (oK c x)=sM (o++[c]) (m+1) x:=by
 rcases x with e|⟨p,n⟩<;>simp[sM,oK];omega
theorem SD(q:UInt8):∀(n:Nat) (xs:List UInt8),n≤xs.length→qK q n xs=sM [] n (qK q 0 (xs.drop n))
 |0,xs,_=>by rw[kK,wI]
 |n+1,[],h=>by simp at h
 | n+1,b::r,h=>by rw[qK,SD q n r (by simpa using h),iL];rcases qK q 0 (r.drop n)with e|⟨p,m⟩<;>simp[sM,xF];omega
theorem AM(o p:List UInt8)(m n:Nat)(x:Except Int (List UInt8×Nat)):sM o m (sM p n x)=sM (o++p) (m+n) x:=by
 rcases x with e|⟨q,l⟩<;>simp[sM,kP]
theorem vW{xs:List UInt8}{e:Int}(h:vX xs=.error e):e=8∨e=21:=by
 cases xs with
 |nil=>rw[vX]at h;cases h;exact .inl rfl
 | cons c r=>
   rw[vX]at h;split at h
   ·cases h
   ·split at h
    ·cases h;exact .inr rfl
    ·match r,h with
     |[],h=>rw[AG]at h;cases h;exact .inl rfl
     | [g],h=>
       rw[AG]at h;split at h
       ·cases h;exact .inr rfl
       ·cases h;exact .inl rfl
     | g::d::r,h=>
       rw[AG]at h;split at h
       ·cases h;exact .inr rfl
       ·split at h
        ·cases h;exact .inr rfl
        ·cases h
def mE(q:UInt8)(r:List UInt8):Except Int T1:=match qK q 0 r with
 |.error e=>.error e
 |.ok (o,m)=>.ok ⟨4,m+1,0,o,false⟩
theorem oE{b q:UInt8}{i j:Int}(h1:i=b.toNat)(h2:j=q.toNat):(i=j)↔b=q:=by
 constructor
 ·intro h;apply UInt8.toNat_inj.1;omega
 ·rintro rfl;omega
theorem kX(o:List UInt8)(b:UInt8):byteCells (o++[b])=byteCells o++[.int .u8 (b.toNat:Int)]:=by simp[byteCells]
attribute [local irreducible] G GC GQ GA dV Calls IntKind.wrap Int.decLt Int.decLe
theorem LO(s:ByteArray)(hs:s.size≤65536)(k:Nat)(hk:k<s.size)(q:UInt8)(hq:bAt s k=q.toNat)(w:World)(μ:Mem)(hμ:MOk μ w):
 aO 102 #[.string s,.int .i64 k] w (.tuple #[oN (sO k (mE q ((bl s).drop (k+1)))),.int .i64 (EY (mE q ((bl s).drop (k+1))))]):=by
 refine aQ Tryz.func102 rfl Tryz.ntmps102 (by simp) hμ ?_;generalize hv:oN (sO k (mE q ((bl s).drop (k+1))))=v1;generalize he:EY (mE q ((bl s).drop (k+1)))=e1;try repeat' (first|refine KZ ?_|refine NB fun b=>?_)
 refine dH (ι:=Nat×List UInt8×Value) (fun i=>k+1≤i.1∧i.1≤s.size∧i.2.1.length≤i.1∧qK q 0 ((bl s).drop (k+1))=sM i.2.1 (i.1- (k+1)) (qK q 0 ((bl s).drop i.1))) (fun i=>s.size-i.1) (fun _=>μ) (fun i=>[(7,.int .i64 i.1),(6,i.2.2),(0,.string s),(1,.int .i64 k),(4,.pointer (some ⟨b,0,none⟩)),(5,.int .i64 0)])
  (fun i=>[.inr ⟨i.2.2,5,1,i.2.1.length,byteCells i.2.1⟩,.inl ⟨b,54,7,idx 0 (eB nC)⟩]) (k+1,[],.slice none 0 0) ⟨by simp,by dsimp only;omega,by simp,by rw[iP,wI]⟩ (fun a w hs=>(hs.kU 5 1).sub PU (by repeat exact aH _)) ?_
 rintro⟨i,out,v⟩ ⟨aa,hi,y,hJ⟩;dsimp only at aa hi y hJ⊢;have g:True:=trivial;have j:True:=trivial;by_cases z:i<s.size
 ·obtain⟨c,ab,l⟩:=sI z;rw[kO ab,qK]at hJ;by_cases p:c=q
  ·have u:bAt s i=bAt s k:=(oE l hq).2 p;rw[if_pos p]at hJ;have hQ:mE q ((bl s).drop (k+1))=.ok ⟨4,i- (k+1)+1+1,0,out,false⟩:=by unfold mE;rw[hJ];simp[sM]
   rw[hQ]at hv he;obtain rfl:v1=oN ⟨4,k,(i:Int)+1,0,⟨out.toArray⟩,false,false⟩:=by rw[←hv];simp only[sO,BK,ofL];rw[show k+ (i- (k+1)+1+1)=i+1 by omega];rfl
   subst he;try repeat' (refine KO ?_)
   refine aW 8 (_) (by kernel_rfl) rfl (by exact aH _) ?_;all_goals(refine DD 0 ?_;refine DD 1 ?_;refine D2 2 rfl (by exact U2 i) ?_;refine DD 3 ?_;refine DD 4 ?_;refine D2 5 rfl (by exact U2 k) ?_;refine D1 6 ?_;refine DD 7 ?_;refine D8 ?_)
   try repeat' (first|refine KO ?_|(refine KV (b:=by(((with_reducible apply pC out 0);(iterate 7 exact rfl)))) (c:=?_))|refine KZ ?_)
   exact eY rfl (RG 1 rfl rfl rfl rfl rfl) (aN rfl) rfl rfl
  ·have u:¬bAt s i=bAt s k:=fun h=>p ((oE l hq).1 h);rw[if_neg p]at hJ;cases g:rP (bAt s i)with
   | true=>
     rw[if_pos (by rw[on8,←l];exact g)]at hJ;have hQ:mE q ((bl s).drop (k+1))=.error 22:=by unfold mE;rw[hJ];rfl
     rw[hQ]at hv he;subst hv he;try repeat' (refine KO ?_)
     refine aW 8 (_) (by kernel_rfl) rfl (by exact aH _) ?_;all_goals(refine DD 0 ?_;refine DD 1 ?_;refine D2 2 rfl (by exact U2 i) ?_;refine DD 3 ?_;refine DD 4 ?_;refine D2 5 rfl (by exact U2 k) ?_;refine D1 6 ?_;refine DD 7 ?_;refine D8 ?_)
     try repeat' (first|refine KO ?_|refine K2 93 (fun w μc hw o=>yZ _ g (fQ _ _) (fR _ _) w μc hw) ?_|(refine KV (b:=by exact U2 i) (c:=?_))|refine KZ ?_)
     exact eY rfl (RG 1 rfl rfl rfl rfl rfl) (aN rfl) rfl rfl
   | false=>
     rw[if_neg (by rw[on8,←l,g];simp)]at hJ;by_cases r:c=92
     ·have x:bAt s i=92:=by rw[l,r];rfl
      rw[if_neg (by simp[r])]at hJ;have j:=vV s hs (i+1) (by omega);generalize hE:vX ((bl s).drop (i+1))=E at hJ j;rcases E with er|⟨d,n⟩
      ·have hQ:mE q ((bl s).drop (k+1))=.error er:=by unfold mE;rw[hJ];rfl
       have ad:=vW hE;rw[hQ]at hv he;subst hv he;try repeat' (refine KO ?_)
       refine aW 8 (_) (by kernel_rfl) rfl (by exact aH _) ?_;all_goals(refine DD 0 ?_;refine DD 1 ?_;refine D2 2 rfl (by exact U2 i) ?_;refine DD 3 ?_;refine DD 4 ?_;refine D2 5 rfl (by exact U2 k) ?_;refine D1 6 ?_;refine DD 7 ?_;refine D8 ?_)
       try repeat' (first|refine KO ?_|refine K2 93 (fun w μc hw o=>yZ _ g (fQ _ _) (fR _ _) w μc hw) ?_|refine K2 123 (fun w μc hw o=>j w μc hw) ?_|(refine KV (b:=by exact U2 i) (c:=?_))|refine KZ ?_)
       exact eY rfl (RG 1 rfl rfl rfl rfl rfl) (aN rfl) rfl rfl
      ·obtain⟨e1',e2,_⟩:=AF hE;rw[bC,dU]at e2;simp only at hJ;rw[SD q n _ (by rw[bC,dU];exact e2),oV,AM,cF,bP]at hJ;try repeat' (refine KO ?_)
       refine aW 8 (_) (by kernel_rfl) rfl (by exact aH _) ?_;all_goals(refine DD 0 ?_;refine DD 1 ?_;refine D2 2 rfl (by exact U2 i) ?_;refine DD 3 ?_;refine DD 4 ?_;refine D2 5 rfl (by exact U2 k) ?_;refine D1 6 ?_;refine DD 7 ?_;refine D8 ?_)
       try repeat' (first|refine KO ?_|refine K2 93 (fun w μc hw o=>yZ _ g (fQ _ _) (fR _ _) w μc hw) ?_|refine K2 123 (fun w μc hw o=>j w μc hw) ?_|(((with_reducible apply pJ);(iterate 3 exact rfl);(repeat first|with_reducible exact eO|with_reducible apply gX);(iterate 6 exact rfl);(((with_reducible apply lV);exact rfl;(repeat with_reducible exact bT);exact rfl));exact rfl;exact jI (by(repeat first|with_reducible exact eG|((with_reducible apply dO);exact rfl)));omega;omega;intro v))|(refine KV (b:=by exact U2 i) (c:=?_))|refine KZ ?_|refine NB fun b=>?_)
       refine gG (i+1+n,out++[d],v) ⟨by dsimp only;omega,by dsimp only;omega,by simp;omega,?_⟩ (by dsimp only;omega) rfl PU ?_
       ·dsimp only;rw[hJ];congr 1;omega
       ·dsimp only;rw[kX,aB];exact(by repeat first|exact aH _|refine aG ?_)
     ·have x:¬bAt s i=92:=by
       intro h;apply r;apply UInt8.toNat_inj.1;show c.toNat=92
       omega
      rw[if_pos r,oV]at hJ;try repeat' (refine KO ?_)
      refine aW 8 (_) (by kernel_rfl) rfl (by exact aH _) ?_;all_goals(refine DD 0 ?_;refine DD 1 ?_;refine D2 2 rfl (by exact U2 i) ?_;refine DD 3 ?_;refine DD 4 ?_;refine D2 5 rfl (by exact U2 k) ?_;refine D1 6 ?_;refine DD 7 ?_;refine D8 ?_)
      try repeat' (first|refine KO ?_|refine K2 93 (fun w μc hw o=>yZ _ g (fQ _ _) (fR _ _) w μc hw) ?_|(((with_reducible apply pJ);(iterate 3 exact rfl);(repeat first|with_reducible exact eO|with_reducible apply gX);(iterate 6 exact rfl);(((with_reducible apply lV);exact rfl;(repeat with_reducible exact bT);exact rfl));exact rfl;exact jI (by(repeat first|with_reducible exact eG|((with_reducible apply dO);exact rfl)));omega;omega;intro v))|(refine KV (b:=by exact U2 i) (c:=?_))|refine KZ ?_|refine NB fun b=>?_)
      refine gG (i+1,out++[c],v) ⟨by dsimp only;omega,by dsimp only;omega,by simp;omega,?_⟩ (by dsimp only;omega) rfl PU ?_
      ·dsimp only;rw[hJ,show i- (k+1)+1=i+1- (k+1)by omega]
      ·dsimp only;rw[kX,aB,←l];exact(by repeat first|exact aH _|refine aG ?_)
 ·have hQ:mE q ((bl s).drop (k+1))=.error 8:=by rw[oA (i:=i) (by omega),qK]at hJ;unfold mE;rw[hJ];rfl
  rw[hQ]at hv he;subst hv he;try repeat' (refine KZ ?_)
  exact eY rfl (RG 1 rfl rfl rfl rfl rfl) (aN rfl) rfl rfl
end
section
open Go.RowKit Go.Vcg
theorem JC:∀(n:Nat) (xs:List UInt8),n≤xs.length→pK n xs=sM [] n (pK 0 (xs.drop n))
 |0,xs,_=>by rw[kK,wI]
 |n+1,[],h=>by simp at h
 | n+1,b::r,h=>by rw[pK,JC n r (by simpa using h),iL];rcases pK 0 (r.drop n)with e|⟨p,m⟩<;>simp[sM,xF];omega
def kA(c:UInt8)(r:List UInt8):Except Int T1:=match pK 0 r with
 |.error e=>.error e
 |.ok (o,m)=>.ok ⟨6,if r[m-1]? =some 36 then m+2 else m+1,if c=125 then 1 else 0,o,decide (r[m-1]? =some 36)⟩
attribute [local irreducible] G GC GQ GA dV Calls IntKind.wrap Int.decLt Int.decLe
theorem PD(s:ByteArray)(hs:s.size≤65536)(k:Nat)(hk:k<s.size)(q:UInt8)(hq:bAt s k=q.toNat)(w:World)(μ:Mem)(hμ:MOk μ w):
 aO 103 #[.string s,.int .i64 k] w (.tuple #[oN (sO k (kA q ((bl s).drop (k+1)))),.int .i64 (EY (kA q ((bl s).drop (k+1))))]):=by
 refine aQ Tryz.func103 rfl Tryz.ntmps103 (by simp) hμ ?_;generalize hv:oN (sO k (kA q ((bl s).drop (k+1))))=v1;generalize he:EY (kA q ((bl s).drop (k+1)))=e1;have ai:bAt s k=125↔q=125:=oE hq rfl;obtain⟨n1,ah,al⟩:∃n1:Int,(if q=125 then(1:Int)else 0)=n1∧((bAt s k=125∧n1=1)∨(¬bAt s k=125∧n1=0)):=by
  refine⟨_,rfl,?_⟩;split
  ·rename_i h;exact .inl ⟨ai.2 h,rfl⟩
  ·rename_i h;exact .inr ⟨fun h' =>h (ai.1 h'),rfl⟩
 rcases al with⟨al,rfl⟩|⟨al,rfl⟩
 all_goals
  have i:Nat:=0;have out:List UInt8:=[];have p:True:=trivial;have g:True:=trivial;try repeat' (first|refine KO ?_|(refine KV (b:=by exact U2 k) (c:=?_))|refine KZ ?_|refine NB fun b=>?_)
 ·rename_i b0;refine dH (ι:=Nat×List UInt8×Value) (fun i=>k+1≤i.1∧i.1≤s.size∧i.2.1.length≤i.1∧pK 0 ((bl s).drop (k+1))=sM i.2.1 (i.1- (k+1)) (pK 0 ((bl s).drop i.1))) (fun i=>s.size-i.1) (fun _=>μ) (fun i=>[(8,.int .i64 i.1),(7,i.2.2),(0,.string s),(1,.int .i64 k),(4,.pointer (some ⟨b0,0,none⟩)),(6,.pointer (some ⟨b,0,none⟩)),(5,.int .i64 0)])
   (fun i=>[.inr ⟨i.2.2,5,1,i.2.1.length,byteCells i.2.1⟩,.inl ⟨b,54,7,idx 0 [.int .i64 6,.int .i64 k,.int .i64 0,.int .i64 1,.string ⟨#[]⟩,.bool false,.bool false]⟩,.inl ⟨b0,54,7,idx 0 (eB nC)⟩]) (k+1,[],.slice none 0 0) ⟨by simp,by dsimp only;omega,by simp,by rw[iP,wI]⟩ (fun a w hs=>((hs.cells (i:=0) (cs' :=idx 0 [.int .i64 6,.int .i64 k,.int .i64 0,.int .i64 1,.string ⟨#[]⟩,.bool false,.bool false]) rfl PU rfl).kU 5 1).sub PU (by repeat exact aH _)) ?_
  clear p g i out;rintro⟨i,out,v⟩ ⟨ao,hi,aj,hJ⟩;dsimp only at ao hi aj hJ⊢;have g:True:=trivial;by_cases an:i<s.size
  ·obtain⟨c,ae,l⟩:=sI an;have hd:(bl s).drop i=c::(bl s).drop (i+1):=kO ae;have p:=fun w μ hμ=>sZ s i ⟨#[36,123]⟩ hs (by decide) (c:=decide (((bl s).drop i).take 2=[36,123])) (by rfl) w μ hμ;rw[hd,pK]at hJ;have ad:((bl s).drop i).take 2=[36,123]↔(c=36∧((bl s).drop (i+1)).head? =some 123):=by
    rw[hd];cases(bl s).drop (i+1)with
    |nil=>simp
    |cons x y=>simp
   have ab:((bl s).drop (k+1))[i- (k+1)]? =some c:=by rw[eE,show k+1+ (i- (k+1))=i by omega];exact ae
   by_cases r:((bl s).drop i).take 2=[36,123]
   ·simp only[decide_eq_true r]at p;obtain⟨z,ap⟩:=ad.1 r;rw[if_pos (.inl ⟨z,ap⟩)]at hJ;have hQ:kA q ((bl s).drop (k+1))=.ok ⟨6,i- (k+1)+1+2,1,out,true⟩:=by unfold kA;rw[hJ];simp only[sM,bP,iU,ab,z,if_true,ah];rfl
    rw[hQ]at hv he;obtain rfl:v1=oN ⟨6,k,(i:Int)+1+1,1,⟨out.toArray⟩,false,true⟩:=by rw[←hv];simp only[sO,BK,ofL];rw[show k+ (i- (k+1)+1+2)=i+1+1 by omega];rfl
    subst he;try repeat' (first|refine KO ?_|refine K2 95 (fun w μc hw j=>p w μc hw) ?_|(refine KV (b:=by((with_reducible apply dR i);(iterate 4 exact rfl);omega)) (c:=?_))|refine KZ ?_)
    refine aW 8 _ (by kernel_rfl) rfl (aK (aG (aK aU))) ?_;all_goals(refine D1 0 ?_;refine DD 1 ?_;refine D1 2 ?_;refine D2 3 rfl (by(((with_reducible apply pC out 0);(iterate 7 exact rfl)))) ?_;refine D1 4 ?_;refine D3 5 ?_;refine D5 ?_;refine Y0 ?_;refine D9 ?_;refine D1 6 ?_;refine D3 7 ?_;refine D5 ?_;refine Y0 ?_;refine D9 ?_;refine D8 ?_)
    try repeat' (refine KZ ?_)
    exact eY rfl (RG 2 rfl rfl rfl rfl rfl) (aN rfl) rfl rfl
   ·simp only[decide_eq_false r]at p;have ak:¬(c=36∧((bl s).drop (i+1)).head? =some 123):=fun h=>r (ad.2 h);by_cases o:c=96
    ·have af:bAt s i=96:=by rw[l,o];rfl
     rw[if_pos (.inr o)]at hJ;have hQ:kA q ((bl s).drop (k+1))=.ok ⟨6,i- (k+1)+1+1,1,out,false⟩:=by
      unfold kA;rw[hJ];have aa:¬(96:UInt8)=36:=by decide
      simp only[sM,bP,iU,ab,o,aR,aa,if_false,ah];rfl
     rw[hQ]at hv he;obtain rfl:v1=oN ⟨6,k,(i:Int)+1,1,⟨out.toArray⟩,false,false⟩:=by rw[←hv];simp only[sO,BK,ofL];rw[show k+ (i- (k+1)+1+1)=i+1 by omega];rfl
     subst he;try repeat' (first|refine KO ?_|refine K2 95 (fun w μc hw j=>p w μc hw) ?_|(refine KV (b:=by first|exact U2 i|((with_reducible apply dR i);(iterate 4 exact rfl);omega)) (c:=?_))|refine KZ ?_)
     refine aW 8 _ (by kernel_rfl) rfl (aK (aG (aK aU))) ?_;all_goals(refine D1 0 ?_;refine DD 1 ?_;refine D1 2 ?_;refine D2 3 rfl (by(((with_reducible apply pC out 0);(iterate 7 exact rfl)))) ?_;refine D1 4 ?_;refine D3 5 ?_;refine D5 ?_;refine Y0 ?_;refine D9 ?_;refine D1 6 ?_;refine D3 7 ?_;refine D5 ?_;refine Y0 ?_;refine D9 ?_;refine D8 ?_)
     try repeat' (refine KZ ?_)
     exact eY rfl (RG 2 rfl rfl rfl rfl rfl) (aN rfl) rfl rfl
    ·have af:¬bAt s i=96:=fun h=>o ((oE l (q:=96) rfl).1 h);rw[if_neg (by rintro(h|h);exact ak h;exact o h)]at hJ;by_cases u:c=92
     ·have ag:bAt s i=92:=by rw[l,u];rfl
      rw[if_neg (by simp[u])]at hJ;have g:=vV s hs (i+1) (by omega);generalize hE:vX ((bl s).drop (i+1))=E at hJ g;rcases E with er|⟨d,n⟩
      ·have hQ:kA q ((bl s).drop (k+1))=.error er:=by unfold kA;rw[hJ];rfl
       have aq:=vW hE;rw[hQ]at hv he;subst hv he;try repeat' (first|refine KO ?_|refine K2 95 (fun w μc hw j=>p w μc hw) ?_|refine K2 123 (fun w μc hw j=>g w μc hw) ?_|(refine KV (b:=by first|exact U2 i|((with_reducible apply dR i);(iterate 4 exact rfl);omega)) (c:=?_))|refine KZ ?_)
       exact eY rfl (RG 2 rfl rfl rfl rfl rfl) (aN rfl) rfl rfl
      ·obtain⟨e1',e2,_⟩:=AF hE;rw[bC,dU]at e2;simp only at hJ;rw[JC n _ (by rw[bC,dU];exact e2),oV,AM,cF,bP]at hJ;try repeat' (first|refine KO ?_|refine K2 95 (fun w μc hw j=>p w μc hw) ?_|refine K2 123 (fun w μc hw j=>g w μc hw) ?_|(((with_reducible apply pJ);(iterate 3 exact rfl);(repeat first|with_reducible exact eO|with_reducible apply gX);(iterate 6 exact rfl);(((with_reducible apply lV);exact rfl;(repeat with_reducible exact bT);exact rfl));(exact rfl);((exact jI (by(repeat first|with_reducible exact eG|((with_reducible apply dO);(exact rfl))))));omega;omega;intro v))|(refine KV (b:=by first|exact U2 i|((with_reducible apply dR i);(iterate 4 exact rfl);omega)) (c:=?_))|refine KZ ?_|refine NB fun b=>?_)
       refine tZ (idx 0 [.int .i64 6,.int .i64 k,.int .i64 0,.int .i64 1,.string ⟨#[]⟩,.bool false,.bool false]) PU ?_;refine gG (i+1+n,out++[d],v) ⟨by dsimp only;omega,by dsimp only;omega,by simp;omega,?_⟩ (by dsimp only;omega) rfl PU ?_
       ·dsimp only;rw[hJ];congr 1;omega
       ·dsimp only;rw[kX,aB];exact(by repeat first|exact aH _|refine aG ?_)
     ·have ag:¬bAt s i=92:=fun h=>u ((oE l (q:=92) rfl).1 h);rw[if_pos u,oV]at hJ;try repeat' (first|refine KO ?_|refine K2 95 (fun w μc hw j=>p w μc hw) ?_|(((with_reducible apply pJ);(iterate 3 exact rfl);(repeat first|with_reducible exact eO|with_reducible apply gX);(iterate 6 exact rfl);(((with_reducible apply lV);exact rfl;(repeat with_reducible exact bT);exact rfl));(exact rfl);((exact jI (by(repeat first|with_reducible exact eG|((with_reducible apply dO);(exact rfl))))));omega;omega;intro v))|(refine KV (b:=by first|exact U2 i|((with_reducible apply dR i);(iterate 4 exact rfl);omega)) (c:=?_))|refine KZ ?_|refine NB fun b=>?_)
      refine tZ (idx 0 [.int .i64 6,.int .i64 k,.int .i64 0,.int .i64 1,.string ⟨#[]⟩,.bool false,.bool false]) PU ?_;refine gG (i+1,out++[c],v) ⟨by dsimp only;omega,by dsimp only;omega,by simp;omega,?_⟩ (by dsimp only;omega) rfl PU ?_
      ·dsimp only;rw[hJ,show i- (k+1)+1=i+1- (k+1)by omega]
      ·dsimp only;rw[kX,aB,←l];exact(by repeat first|exact aH _|refine aG ?_)
  ·have p:True:=trivial;have hQ:kA q ((bl s).drop (k+1))=.error 8:=by rw[oA (i:=i) (by omega),pK]at hJ;unfold kA;rw[hJ];rfl
   rw[hQ]at hv he;subst hv he;try repeat' (refine KZ ?_)
   exact eY rfl (RG 2 rfl rfl rfl rfl rfl) (aN rfl) rfl rfl
 ·rename_i b0;refine dH (ι:=Nat×List UInt8×Value) (fun i=>k+1≤i.1∧i.1≤s.size∧i.2.1.length≤i.1∧pK 0 ((bl s).drop (k+1))=sM i.2.1 (i.1- (k+1)) (pK 0 ((bl s).drop i.1))) (fun i=>s.size-i.1) (fun _=>μ) (fun i=>[(8,.int .i64 i.1),(7,i.2.2),(0,.string s),(1,.int .i64 k),(4,.pointer (some ⟨b0,0,none⟩)),(6,.pointer (some ⟨b,0,none⟩)),(5,.int .i64 0)])
   (fun i=>[.inr ⟨i.2.2,5,1,i.2.1.length,byteCells i.2.1⟩,.inl ⟨b,54,7,idx 0 [.int .i64 6,.int .i64 k,.int .i64 0,.int .i64 0,.string ⟨#[]⟩,.bool false,.bool false]⟩,.inl ⟨b0,54,7,idx 0 (eB nC)⟩]) (k+1,[],.slice none 0 0) ⟨by simp,by dsimp only;omega,by simp,by rw[iP,wI]⟩ (fun a w hs=>((hs.cells (i:=0) (cs' :=idx 0 [.int .i64 6,.int .i64 k,.int .i64 0,.int .i64 0,.string ⟨#[]⟩,.bool false,.bool false]) rfl PU rfl).kU 5 1).sub PU (by repeat exact aH _)) ?_
  clear p g i out;rintro⟨i,out,v⟩ ⟨ao,hi,aj,hJ⟩;dsimp only at ao hi aj hJ⊢;have g:True:=trivial;by_cases an:i<s.size
  ·obtain⟨c,ae,l⟩:=sI an;have hd:(bl s).drop i=c::(bl s).drop (i+1):=kO ae;have p:=fun w μ hμ=>sZ s i ⟨#[36,123]⟩ hs (by decide) (c:=decide (((bl s).drop i).take 2=[36,123])) (by rfl) w μ hμ;rw[hd,pK]at hJ;have ad:((bl s).drop i).take 2=[36,123]↔(c=36∧((bl s).drop (i+1)).head? =some 123):=by
    rw[hd];cases(bl s).drop (i+1)with
    |nil=>simp
    |cons x y=>simp
   have ab:((bl s).drop (k+1))[i- (k+1)]? =some c:=by rw[eE,show k+1+ (i- (k+1))=i by omega];exact ae
   by_cases r:((bl s).drop i).take 2=[36,123]
   ·simp only[decide_eq_true r]at p;obtain⟨z,ap⟩:=ad.1 r;rw[if_pos (.inl ⟨z,ap⟩)]at hJ;have hQ:kA q ((bl s).drop (k+1))=.ok ⟨6,i- (k+1)+1+2,0,out,true⟩:=by unfold kA;rw[hJ];simp only[sM,bP,iU,ab,z,if_true,ah];rfl
    rw[hQ]at hv he;obtain rfl:v1=oN ⟨6,k,(i:Int)+1+1,0,⟨out.toArray⟩,false,true⟩:=by rw[←hv];simp only[sO,BK,ofL];rw[show k+ (i- (k+1)+1+2)=i+1+1 by omega];rfl
    subst he;try repeat' (first|refine KO ?_|refine K2 95 (fun w μc hw j=>p w μc hw) ?_|(refine KV (b:=by((with_reducible apply dR i);(iterate 4 exact rfl);omega)) (c:=?_))|refine KZ ?_)
    refine aW 8 _ (by kernel_rfl) rfl (aK (aG (aK aU))) ?_;all_goals(refine D1 0 ?_;refine DD 1 ?_;refine D1 2 ?_;refine D2 3 rfl (by(((with_reducible apply pC out 0);(iterate 7 exact rfl)))) ?_;refine D1 4 ?_;refine D3 5 ?_;refine D5 ?_;refine Y0 ?_;refine D9 ?_;refine D1 6 ?_;refine D3 7 ?_;refine D5 ?_;refine Y0 ?_;refine D9 ?_;refine D8 ?_)
    try repeat' (refine KZ ?_)
    exact eY rfl (RG 2 rfl rfl rfl rfl rfl) (aN rfl) rfl rfl
   ·simp only[decide_eq_false r]at p;have ak:¬(c=36∧((bl s).drop (i+1)).head? =some 123):=fun h=>r (ad.2 h);by_cases o:c=96
    ·have af:bAt s i=96:=by rw[l,o];rfl
     rw[if_pos (.inr o)]at hJ;have hQ:kA q ((bl s).drop (k+1))=.ok ⟨6,i- (k+1)+1+1,0,out,false⟩:=by
      unfold kA;rw[hJ];have aa:¬(96:UInt8)=36:=by decide
      simp only[sM,bP,iU,ab,o,aR,aa,if_false,ah];rfl
     rw[hQ]at hv he;obtain rfl:v1=oN ⟨6,k,(i:Int)+1,0,⟨out.toArray⟩,false,false⟩:=by rw[←hv];simp only[sO,BK,ofL];rw[show k+ (i- (k+1)+1+1)=i+1 by omega];rfl
     subst he;try repeat' (first|refine KO ?_|refine K2 95 (fun w μc hw j=>p w μc hw) ?_|(refine KV (b:=by first|exact U2 i|((with_reducible apply dR i);(iterate 4 exact rfl);omega)) (c:=?_))|refine KZ ?_)
     refine aW 8 _ (by kernel_rfl) rfl (aK (aG (aK aU))) ?_;all_goals(refine D1 0 ?_;refine DD 1 ?_;refine D1 2 ?_;refine D2 3 rfl (by(((with_reducible apply pC out 0);(iterate 7 exact rfl)))) ?_;refine D1 4 ?_;refine D3 5 ?_;refine D5 ?_;refine Y0 ?_;refine D9 ?_;refine D1 6 ?_;refine D3 7 ?_;refine D5 ?_;refine Y0 ?_;refine D9 ?_;refine D8 ?_)
     try repeat' (refine KZ ?_)
     exact eY rfl (RG 2 rfl rfl rfl rfl rfl) (aN rfl) rfl rfl
    ·have af:¬bAt s i=96:=fun h=>o ((oE l (q:=96) rfl).1 h);rw[if_neg (by rintro(h|h);exact ak h;exact o h)]at hJ;by_cases u:c=92
     ·have ag:bAt s i=92:=by rw[l,u];rfl
      rw[if_neg (by simp[u])]at hJ;have g:=vV s hs (i+1) (by omega);generalize hE:vX ((bl s).drop (i+1))=E at hJ g;rcases E with er|⟨d,n⟩
      ·have hQ:kA q ((bl s).drop (k+1))=.error er:=by unfold kA;rw[hJ];rfl
       have aq:=vW hE;rw[hQ]at hv he;subst hv he;try repeat' (first|refine KO ?_|refine K2 95 (fun w μc hw j=>p w μc hw) ?_|refine K2 123 (fun w μc hw j=>g w μc hw) ?_|(refine KV (b:=by first|exact U2 i|((with_reducible apply dR i);(iterate 4 exact rfl);omega)) (c:=?_))|refine KZ ?_)
       exact eY rfl (RG 2 rfl rfl rfl rfl rfl) (aN rfl) rfl rfl
      ·obtain⟨e1',e2,_⟩:=AF hE;rw[bC,dU]at e2;simp only at hJ;rw[JC n _ (by rw[bC,dU];exact e2),oV,AM,cF,bP]at hJ;try repeat' (first|refine KO ?_|refine K2 95 (fun w μc hw j=>p w μc hw) ?_|refine K2 123 (fun w μc hw j=>g w μc hw) ?_|(((with_reducible apply pJ);(iterate 3 exact rfl);(repeat first|with_reducible exact eO|with_reducible apply gX);(iterate 6 exact rfl);(((with_reducible apply lV);exact rfl;(repeat with_reducible exact bT);exact rfl));(exact rfl);((exact jI (by(repeat first|with_reducible exact eG|((with_reducible apply dO);(exact rfl))))));omega;omega;intro v))|(refine KV (b:=by first|exact U2 i|((with_reducible apply dR i);(iterate 4 exact rfl);omega)) (c:=?_))|refine KZ ?_|refine NB fun b=>?_)
       refine tZ (idx 0 [.int .i64 6,.int .i64 k,.int .i64 0,.int .i64 0,.string ⟨#[]⟩,.bool false,.bool false]) PU ?_;refine gG (i+1+n,out++[d],v) ⟨by dsimp only;omega,by dsimp only;omega,by simp;omega,?_⟩ (by dsimp only;omega) rfl PU ?_
       ·dsimp only;rw[hJ];congr 1;omega
       ·dsimp only;rw[kX,aB];exact(by repeat first|exact aH _|refine aG ?_)
     ·have ag:¬bAt s i=92:=fun h=>u ((oE l (q:=92) rfl).1 h);rw[if_pos u,oV]at hJ;try repeat' (first|refine KO ?_|refine K2 95 (fun w μc hw j=>p w μc hw) ?_|(((with_reducible apply pJ);(iterate 3 exact rfl);(repeat first|with_reducible exact eO|with_reducible apply gX);(iterate 6 exact rfl);(((with_reducible apply lV);exact rfl;(repeat with_reducible exact bT);exact rfl));(exact rfl);((exact jI (by(repeat first|with_reducible exact eG|((with_reducible apply dO);(exact rfl))))));omega;omega;intro v))|(refine KV (b:=by first|exact U2 i|((with_reducible apply dR i);(iterate 4 exact rfl);omega)) (c:=?_))|refine KZ ?_|refine NB fun b=>?_)
      refine tZ (idx 0 [.int .i64 6,.int .i64 k,.int .i64 0,.int .i64 0,.string ⟨#[]⟩,.bool false,.bool false]) PU ?_;refine gG (i+1,out++[c],v) ⟨by dsimp only;omega,by dsimp only;omega,by simp;omega,?_⟩ (by dsimp only;omega) rfl PU ?_
      ·dsimp only;rw[hJ,show i- (k+1)+1=i+1- (k+1)by omega]
      ·dsimp only;rw[kX,aB,←l];exact(by repeat first|exact aH _|refine aG ?_)
  ·have p:True:=trivial;have hQ:kA q ((bl s).drop (k+1))=.error 8:=by rw[oA (i:=i) (by omega),pK]at hJ;unfold kA;rw[hJ];rfl
   rw[hQ]at hv he;subst hv he;try repeat' (refine KZ ?_)
   exact eY rfl (RG 2 rfl rfl rfl rfl rfl) (aN rfl) rfl rfl
end
end Go.Proofs.YtknieidhopbngaaGreat
namespace Go.Vcg
open Go.RowKit
section
variable{P:Program}{μ:Mem}{l:bG}{L:List Bk}{ds:Option Nat}{ty:TypeId}{pos:String}{af:Array Edge}{gd:Option (Nat×Bool)}
theorem eH{p q:Operand}{t e:TypeId}{b off len n:Nat}{i:Int}(k:Nat)(ht:P.underlying t=some (.array len e))(hs:gW P e=some n)
 (hx0:ev l p=some (.pointer (some ⟨b,off,none⟩)))(hx1:ev l q=some (.int .i64 i))(hi:i=(k:Int))(hk:k<len):Val P μ l L ⟨ds,.indexAddr t p q,ty,pos,af,gd⟩ (.pointer (some ⟨b,off+k*n,none⟩)):=
 fun a w c=>by
  have e0:=c.eval hx0;have e1:=c.eval hx1;generalize a.eval=ρ at e0 e1;subst hi;have h1:(0:Int)≤(k:Int)∧(k:Int)< (len:Int):=by omega
  simp[execOp,e0,e1,Instr.indexAt,Instr.sureAddr,asIntOf,run_underlying ht,run_sizeOf hs,hk,add_lit]
end
end Go.Vcg
namespace Go.Proofs.YtknieidhopbngaaGreat
open Go.RowKit Go.Vcg
def AU(xs:List UInt8):Nat→Nat
 |0=>0
 |n+1=>if jG xs (n+1)=true then n+1 else AU xs n
def kH(s:ByteArray)(i:Nat):Bool:=decide (i<s.size)&&mV (bAt s i)
theorem kG(s:ByteArray)(i:Nat):kH s i=true↔i<s.size∧mV (bAt s i)=true:=by simp[kH]
theorem zP(s:ByteArray)(k n:Nat)(hk:k<s.size):jG ((bl s).drop k) n=(decide (k+n≤s.size)&&decide (Lib.indexByte (((bl s).drop k).take n) 32<0)&& !(decide (((bl s).drop k).take n=[63,46])&&kH s (k+n))&&Lib.contains (gE n) ([32]++((bl s).drop k).take n++[32])):=by
 unfold jG;have h1:decide (n≤((bl s).drop k).length)=decide (k+n≤s.size):=by congr 1;apply propext;rw[bC,dU];omega
 have h2:NG ((bl s).drop k) n=kH s (k+n):=by
  unfold kH NG;rw[eE];split
  ·rename_i c hc;have a:=(List.getElem?_eq_some_iff.1 hc).1;rw[dU]at a;rw[decide_eq_true a,JZ hc];rfl
  ·rename_i hc;rw[iI,dU]at hc;rw[decide_eq_false (by omega)];rfl
 rw[h1,h2]
def sP(xs:List UInt8):Except Int T1:=if jS xs=0 then .error 20 else .ok ⟨5,jS xs,0,xs.take (jS xs),false⟩
attribute [local irreducible] G GC GQ GA dV Calls IntKind.wrap Int.decLt Int.decLe
set_option maxHeartbeats 2000000 in
theorem DJ(s:ByteArray)(hs:s.size≤65536)(k:Nat)(hk:k<s.size)(w:World)(μ:Mem)(hμ:MOk μ w)(hM:lE μ):
 aO 104 #[.string s,.int .i64 k] w (.tuple #[oN (sO k (sP ((bl s).drop k))),.int .i64 (EY (sP ((bl s).drop k)))]):=by
 refine aQ Tryz.func104 rfl Tryz.ntmps104 (by simp) hμ ?_;generalize hv:oN (sO k (sP ((bl s).drop k)))=v1;generalize he:EY (sP ((bl s).drop k))=e1;try repeat' (first|refine KZ ?_|refine NB fun b=>?_)
 rename_i b0;refine dH (ι:=Nat) (fun n=>n≤3∧jS ((bl s).drop k)=AU ((bl s).drop k) n) (fun n=>n) (fun _=>μ) (fun n=>[(7,.int .i64 n),(0,.string s),(1,.int .i64 k),(4,.pointer (some ⟨b0,0,none⟩)),(6,.pointer (some ⟨b,0,none⟩)),(5,.int .i64 0)])
  (fun _=>[.inl ⟨b,110,4,idx 0 [.string ⟨#[]⟩,.string (ofL OF),.string (ofL OE),.string (ofL OD)]⟩,.inl ⟨b0,54,7,idx 0 (eB nC)⟩]) 3 ⟨by omega,rfl⟩ (fun a w hs=>(hs.cells (i:=0) (cs' :=idx 0 [.string ⟨#[]⟩,.string (ofL OF),.string (ofL OE),.string (ofL OD)]) rfl (by repeat first|exact eK|refine cZ (by kernel_rfl) ?_) rfl).sub PU (by repeat exact aH _)) ?_
 rintro n ⟨hn,hJ⟩;obtain rfl|rfl|rfl|rfl:n=3∨n=2∨n=1∨n=0:=by omega
 ·-- 3
  have hx:=CB s k 3;have l:bl (s.extract k (k+3))=((bl s).drop k).take 3:=by rw[hx,rM]
  have ae:(s.extract k (k+3)).size≤65536:=by rw[cK];omega
  have af:(⟨#[32]⟩:ByteArray).size=1:=rfl;have hw:=tI (s.extract k (k+3));have p:(s.extract k (k+3)=⟨#[63,46]⟩)↔(((bl s).drop k).take 3=[63,46]):=by
   constructor
   ·intro h;rw[←l,h]
   ·intro h;apply wF;rw[l,h]
  have x:=fun w μ hμ=>qC (s.extract k (k+3)) 32 (v:=Lib.indexByte (((bl s).drop k).take 3) 32) (by rw[l];rfl) w μ hμ;have aa:jS ((bl s).drop k)=if jG ((bl s).drop k) 3=true then 3 else AU ((bl s).drop k) (3-1):=hJ;have o:jG ((bl s).drop k) 3=false→jS ((bl s).drop k)=AU ((bl s).drop k) (3-1):=fun h=>by rw[aa,h];rfl
  have r:jG ((bl s).drop k) 3=(decide (k+3≤s.size)&&decide (Lib.indexByte (((bl s).drop k).take 3) 32<0)&& !(decide (((bl s).drop k).take 3=[63,46])&&kH s (k+3))&&Lib.contains (gE 3) ([32]++((bl s).drop k).take 3++[32])):=zP s k 3 hk;have q:True:=trivial;have hc:True:=trivial;by_cases h1:k+3≤s.size
  ·by_cases h2:Lib.indexByte (((bl s).drop k).take 3) 32<0
   ·by_cases h3:((bl s).drop k).take 3=[63,46]∧kH s (k+3)=true
    ·have ag:=p.2 h3.1;have j:=o (by rw[r,decide_eq_true h3.1,h3.2];simp);obtain⟨u,q⟩:=(kG s (k+3)).1 h3.2;try repeat' (first|refine KO ?_|refine K2 124 (fun w μc hw d=>x w μc hw) ?_|refine K2 100 (fun w μc hw d=>eZ _ q (fQ _ _) (fR _ _) w μc hw) ?_|(refine KV (b:=by first|exact U2 (k+3)|((with_reducible apply cA k (k+3));(iterate 5 exact rfl);(exact rfl);omega;omega)) (c:=?_))|refine KZ ?_)
     exact J4 (3-1) ⟨by omega,j⟩ (by omega)
    ·cases hc:Lib.contains (gE 3) ([32]++((bl s).drop k).take 3++[32])with
     | false=>
       have j:=o (by rw[r,hc];simp);by_cases h4:((bl s).drop k).take 3=[63,46]
       ·have z:=p.2 h4;by_cases u:k+3<s.size
        ·have q:mV (bAt s (k+3))=false:=by
          cases y:mV (bAt s (k+3))with
          |false=>rfl
          |true=>exact absurd ⟨h4,(kG s (k+3)).2 ⟨u,y⟩⟩ h3
         try repeat' (first|refine KO ?_|refine K2 124 (fun w μc hw d=>x w μc hw) ?_|refine K2 100 (fun w μc hw d=>eZ _ q (fQ _ _) (fR _ _) w μc hw) ?_|((with_reducible apply F1 121);exact rfl;exact EN;exact fun w μc g d=>dI _ _ (by decide+kernel) (tab:=gE 3) (by kernel_rfl) (by rw[l,hc]) w μc g (hM.mono d.le))|(refine KV (b:=by first|exact U2 (k+3)|((with_reducible apply cA k (k+3));(iterate 5 exact rfl);(exact rfl);omega;omega)|((with_reducible apply eH 3);(iterate 4 exact rfl);(exact rfl);omega)|((with_reducible apply iG);exact rfl;exact rfl;omega)) (c:=?_))|refine KZ ?_)
         exact J4 (3-1) ⟨by omega,j⟩ (by omega)
        ·try repeat' (first|refine KO ?_|refine K2 124 (fun w μc hw d=>x w μc hw) ?_|((with_reducible apply F1 121);exact rfl;exact EN;exact fun w μc g d=>dI _ _ (by decide+kernel) (tab:=gE 3) (by kernel_rfl) (by rw[l,hc]) w μc g (hM.mono d.le))|(refine KV (b:=by first|((with_reducible apply cA k (k+3));(iterate 5 exact rfl);(exact rfl);omega;omega)|((with_reducible apply eH 3);(iterate 4 exact rfl);(exact rfl);omega)|((with_reducible apply iG);exact rfl;exact rfl;omega)) (c:=?_))|refine KZ ?_)
         exact J4 (3-1) ⟨by omega,j⟩ (by omega)
       ·have z:¬(s.extract k (k+3)=⟨#[63,46]⟩):=fun h=>h4 (p.1 h);try repeat' (first|refine KO ?_|refine K2 124 (fun w μc hw d=>x w μc hw) ?_|((with_reducible apply F1 121);exact rfl;exact EN;exact fun w μc g d=>dI _ _ (by decide+kernel) (tab:=gE 3) (by kernel_rfl) (by rw[l,hc]) w μc g (hM.mono d.le))|(refine KV (b:=by first|((with_reducible apply cA k (k+3));(iterate 5 exact rfl);(exact rfl);omega;omega)|((with_reducible apply eH 3);(iterate 4 exact rfl);(exact rfl);omega)|((with_reducible apply iG);exact rfl;exact rfl;omega)) (c:=?_))|refine KZ ?_)
        exact J4 (3-1) ⟨by omega,j⟩ (by omega)
     | true=>
       have ad:(decide (((bl s).drop k).take 3=[63,46])&&kH s (k+3))=false:=by
        cases ab:kH s (k+3)with
        |false=>simp
        |true=>rw[decide_eq_false (fun h=>h3 ⟨h,ab⟩)];rfl
       have j:jS ((bl s).drop k)=3:=by rw[aa,r,hc,ad,decide_eq_true h1,decide_eq_true h2];rfl
       have hQ:sP ((bl s).drop k)=.ok ⟨5,3,0,((bl s).drop k).take 3,false⟩:=by unfold sP;rw[j];rfl
       rw[hQ]at hv he;obtain rfl:v1=oN ⟨5,k,(k:Int)+3,0,s.extract k (k+3),false,false⟩:=by rw[←hv,hx];rfl
       subst he;by_cases h4:((bl s).drop k).take 3=[63,46]
       ·have z:=p.2 h4;by_cases u:k+3<s.size
        ·have q:mV (bAt s (k+3))=false:=by
          cases y:mV (bAt s (k+3))with
          |false=>rfl
          |true=>exact absurd ⟨h4,(kG s (k+3)).2 ⟨u,y⟩⟩ h3
         try repeat' (first|refine KO ?_|refine K2 124 (fun w μc hw d=>x w μc hw) ?_|refine K2 100 (fun w μc hw d=>eZ _ q (fQ _ _) (fR _ _) w μc hw) ?_|((with_reducible apply F1 121);exact rfl;exact EN;exact fun w μc g d=>dI _ _ (by decide+kernel) (tab:=gE 3) (by kernel_rfl) (by rw[l,hc]) w μc g (hM.mono d.le))|(refine KV (b:=by first|exact U2 (k+3)|((with_reducible apply cA k (k+3));(iterate 5 exact rfl);(exact rfl);omega;omega)|((with_reducible apply eH 3);(iterate 4 exact rfl);(exact rfl);omega)|((with_reducible apply iG);exact rfl;exact rfl;omega)) (c:=?_))|refine KZ ?_)
         exact eY rfl (RG 1 rfl rfl rfl rfl rfl) (aN rfl) rfl rfl
        ·try repeat' (first|refine KO ?_|refine K2 124 (fun w μc hw d=>x w μc hw) ?_|((with_reducible apply F1 121);exact rfl;exact EN;exact fun w μc g d=>dI _ _ (by decide+kernel) (tab:=gE 3) (by kernel_rfl) (by rw[l,hc]) w μc g (hM.mono d.le))|(refine KV (b:=by first|((with_reducible apply cA k (k+3));(iterate 5 exact rfl);(exact rfl);omega;omega)|((with_reducible apply eH 3);(iterate 4 exact rfl);(exact rfl);omega)|((with_reducible apply iG);exact rfl;exact rfl;omega)) (c:=?_))|refine KZ ?_)
         exact eY rfl (RG 1 rfl rfl rfl rfl rfl) (aN rfl) rfl rfl
       ·have z:¬(s.extract k (k+3)=⟨#[63,46]⟩):=fun h=>h4 (p.1 h);try repeat' (first|refine KO ?_|refine K2 124 (fun w μc hw d=>x w μc hw) ?_|((with_reducible apply F1 121);exact rfl;exact EN;exact fun w μc g d=>dI _ _ (by decide+kernel) (tab:=gE 3) (by kernel_rfl) (by rw[l,hc]) w μc g (hM.mono d.le))|(refine KV (b:=by first|((with_reducible apply cA k (k+3));(iterate 5 exact rfl);(exact rfl);omega;omega)|((with_reducible apply eH 3);(iterate 4 exact rfl);(exact rfl);omega)|((with_reducible apply iG);exact rfl;exact rfl;omega)) (c:=?_))|refine KZ ?_)
        exact eY rfl (RG 1 rfl rfl rfl rfl rfl) (aN rfl) rfl rfl
   ·have j:=o (by rw[r,decide_eq_false h2];simp);try repeat' (first|refine KO ?_|refine K2 124 (fun w μc hw d=>x w μc hw) ?_|(refine KV (b:=by((with_reducible apply cA k (k+3));(iterate 5 exact rfl);exact rfl;omega;omega)) (c:=?_))|refine KZ ?_)
    exact J4 (3-1) ⟨by omega,j⟩ (by omega)
  ·have j:=o (by rw[r,decide_eq_false h1];rfl);try repeat' (refine KZ ?_)
   exact J4 (3-1) ⟨by omega,j⟩ (by omega)
 ·-- 2
  have hx:=CB s k 2;have l:bl (s.extract k (k+2))=((bl s).drop k).take 2:=by rw[hx,rM]
  have ae:(s.extract k (k+2)).size≤65536:=by rw[cK];omega
  have af:(⟨#[32]⟩:ByteArray).size=1:=rfl;have hw:=tI (s.extract k (k+2));have p:(s.extract k (k+2)=⟨#[63,46]⟩)↔(((bl s).drop k).take 2=[63,46]):=by
   constructor
   ·intro h;rw[←l,h]
   ·intro h;apply wF;rw[l,h]
  have x:=fun w μ hμ=>qC (s.extract k (k+2)) 32 (v:=Lib.indexByte (((bl s).drop k).take 2) 32) (by rw[l];rfl) w μ hμ;have aa:jS ((bl s).drop k)=if jG ((bl s).drop k) 2=true then 2 else AU ((bl s).drop k) (2-1):=hJ;have o:jG ((bl s).drop k) 2=false→jS ((bl s).drop k)=AU ((bl s).drop k) (2-1):=fun h=>by rw[aa,h];rfl
  have r:jG ((bl s).drop k) 2=(decide (k+2≤s.size)&&decide (Lib.indexByte (((bl s).drop k).take 2) 32<0)&& !(decide (((bl s).drop k).take 2=[63,46])&&kH s (k+2))&&Lib.contains (gE 2) ([32]++((bl s).drop k).take 2++[32])):=zP s k 2 hk;have q:True:=trivial;have hc:True:=trivial;by_cases h1:k+2≤s.size
  ·by_cases h2:Lib.indexByte (((bl s).drop k).take 2) 32<0
   ·by_cases h3:((bl s).drop k).take 2=[63,46]∧kH s (k+2)=true
    ·have ag:=p.2 h3.1;have j:=o (by rw[r,decide_eq_true h3.1,h3.2];simp);obtain⟨u,q⟩:=(kG s (k+2)).1 h3.2;try repeat' (first|refine KO ?_|refine K2 124 (fun w μc hw d=>x w μc hw) ?_|refine K2 100 (fun w μc hw d=>eZ _ q (fQ _ _) (fR _ _) w μc hw) ?_|(refine KV (b:=by first|exact U2 (k+2)|((with_reducible apply cA k (k+2));(iterate 5 exact rfl);(exact rfl);omega;omega)) (c:=?_))|refine KZ ?_)
     exact J4 (2-1) ⟨by omega,j⟩ (by omega)
    ·cases hc:Lib.contains (gE 2) ([32]++((bl s).drop k).take 2++[32])with
     | false=>
       have j:=o (by rw[r,hc];simp);by_cases h4:((bl s).drop k).take 2=[63,46]
       ·have z:=p.2 h4;by_cases u:k+2<s.size
        ·have q:mV (bAt s (k+2))=false:=by
          cases y:mV (bAt s (k+2))with
          |false=>rfl
          |true=>exact absurd ⟨h4,(kG s (k+2)).2 ⟨u,y⟩⟩ h3
         try repeat' (first|refine KO ?_|refine K2 124 (fun w μc hw d=>x w μc hw) ?_|refine K2 100 (fun w μc hw d=>eZ _ q (fQ _ _) (fR _ _) w μc hw) ?_|((with_reducible apply F1 121);exact rfl;exact EN;exact fun w μc g d=>dI _ _ (by decide+kernel) (tab:=gE 2) (by kernel_rfl) (by rw[l,hc]) w μc g (hM.mono d.le))|(refine KV (b:=by first|exact U2 (k+2)|((with_reducible apply cA k (k+2));(iterate 5 exact rfl);(exact rfl);omega;omega)|((with_reducible apply eH 2);(iterate 4 exact rfl);(exact rfl);omega)|((with_reducible apply iG);exact rfl;exact rfl;omega)) (c:=?_))|refine KZ ?_)
         exact J4 (2-1) ⟨by omega,j⟩ (by omega)
        ·try repeat' (first|refine KO ?_|refine K2 124 (fun w μc hw d=>x w μc hw) ?_|((with_reducible apply F1 121);exact rfl;exact EN;exact fun w μc g d=>dI _ _ (by decide+kernel) (tab:=gE 2) (by kernel_rfl) (by rw[l,hc]) w μc g (hM.mono d.le))|(refine KV (b:=by first|((with_reducible apply cA k (k+2));(iterate 5 exact rfl);(exact rfl);omega;omega)|((with_reducible apply eH 2);(iterate 4 exact rfl);(exact rfl);omega)|((with_reducible apply iG);exact rfl;exact rfl;omega)) (c:=?_))|refine KZ ?_)
         exact J4 (2-1) ⟨by omega,j⟩ (by omega)
       ·have z:¬(s.extract k (k+2)=⟨#[63,46]⟩):=fun h=>h4 (p.1 h);try repeat' (first|refine KO ?_|refine K2 124 (fun w μc hw d=>x w μc hw) ?_|((with_reducible apply F1 121);exact rfl;exact EN;exact fun w μc g d=>dI _ _ (by decide+kernel) (tab:=gE 2) (by kernel_rfl) (by rw[l,hc]) w μc g (hM.mono d.le))|(refine KV (b:=by first|((with_reducible apply cA k (k+2));(iterate 5 exact rfl);(exact rfl);omega;omega)|((with_reducible apply eH 2);(iterate 4 exact rfl);(exact rfl);omega)|((with_reducible apply iG);exact rfl;exact rfl;omega)) (c:=?_))|refine KZ ?_)
        exact J4 (2-1) ⟨by omega,j⟩ (by omega)
     | true=>
       have ad:(decide (((bl s).drop k).take 2=[63,46])&&kH s (k+2))=false:=by
        cases ab:kH s (k+2)with
        |false=>simp
        |true=>rw[decide_eq_false (fun h=>h3 ⟨h,ab⟩)];rfl
       have j:jS ((bl s).drop k)=2:=by rw[aa,r,hc,ad,decide_eq_true h1,decide_eq_true h2];rfl
       have hQ:sP ((bl s).drop k)=.ok ⟨5,2,0,((bl s).drop k).take 2,false⟩:=by unfold sP;rw[j];rfl
       rw[hQ]at hv he;obtain rfl:v1=oN ⟨5,k,(k:Int)+2,0,s.extract k (k+2),false,false⟩:=by rw[←hv,hx];rfl
       subst he;by_cases h4:((bl s).drop k).take 2=[63,46]
       ·have z:=p.2 h4;by_cases u:k+2<s.size
        ·have q:mV (bAt s (k+2))=false:=by
          cases y:mV (bAt s (k+2))with
          |false=>rfl
          |true=>exact absurd ⟨h4,(kG s (k+2)).2 ⟨u,y⟩⟩ h3
         try repeat' (first|refine KO ?_|refine K2 124 (fun w μc hw d=>x w μc hw) ?_|refine K2 100 (fun w μc hw d=>eZ _ q (fQ _ _) (fR _ _) w μc hw) ?_|((with_reducible apply F1 121);exact rfl;exact EN;exact fun w μc g d=>dI _ _ (by decide+kernel) (tab:=gE 2) (by kernel_rfl) (by rw[l,hc]) w μc g (hM.mono d.le))|(refine KV (b:=by first|exact U2 (k+2)|((with_reducible apply cA k (k+2));(iterate 5 exact rfl);(exact rfl);omega;omega)|((with_reducible apply eH 2);(iterate 4 exact rfl);(exact rfl);omega)|((with_reducible apply iG);exact rfl;exact rfl;omega)) (c:=?_))|refine KZ ?_)
         exact eY rfl (RG 1 rfl rfl rfl rfl rfl) (aN rfl) rfl rfl
        ·try repeat' (first|refine KO ?_|refine K2 124 (fun w μc hw d=>x w μc hw) ?_|((with_reducible apply F1 121);exact rfl;exact EN;exact fun w μc g d=>dI _ _ (by decide+kernel) (tab:=gE 2) (by kernel_rfl) (by rw[l,hc]) w μc g (hM.mono d.le))|(refine KV (b:=by first|((with_reducible apply cA k (k+2));(iterate 5 exact rfl);(exact rfl);omega;omega)|((with_reducible apply eH 2);(iterate 4 exact rfl);(exact rfl);omega)|((with_reducible apply iG);exact rfl;exact rfl;omega)) (c:=?_))|refine KZ ?_)
         exact eY rfl (RG 1 rfl rfl rfl rfl rfl) (aN rfl) rfl rfl
       ·have z:¬(s.extract k (k+2)=⟨#[63,46]⟩):=fun h=>h4 (p.1 h);try repeat' (first|refine KO ?_|refine K2 124 (fun w μc hw d=>x w μc hw) ?_|((with_reducible apply F1 121);exact rfl;exact EN;exact fun w μc g d=>dI _ _ (by decide+kernel) (tab:=gE 2) (by kernel_rfl) (by rw[l,hc]) w μc g (hM.mono d.le))|(refine KV (b:=by first|((with_reducible apply cA k (k+2));(iterate 5 exact rfl);(exact rfl);omega;omega)|((with_reducible apply eH 2);(iterate 4 exact rfl);(exact rfl);omega)|((with_reducible apply iG);exact rfl;exact rfl;omega)) (c:=?_))|refine KZ ?_)
        exact eY rfl (RG 1 rfl rfl rfl rfl rfl) (aN rfl) rfl rfl
   ·have j:=o (by rw[r,decide_eq_false h2];simp);try repeat' (first|refine KO ?_|refine K2 124 (fun w μc hw d=>x w μc hw) ?_|(refine KV (b:=by((with_reducible apply cA k (k+2));(iterate 5 exact rfl);exact rfl;omega;omega)) (c:=?_))|refine KZ ?_)
    exact J4 (2-1) ⟨by omega,j⟩ (by omega)
  ·have j:=o (by rw[r,decide_eq_false h1];rfl);try repeat' (refine KZ ?_)
   exact J4 (2-1) ⟨by omega,j⟩ (by omega)
 ·-- 1
  have hx:=CB s k 1;have l:bl (s.extract k (k+1))=((bl s).drop k).take 1:=by rw[hx,rM]
  have ae:(s.extract k (k+1)).size≤65536:=by rw[cK];omega
  have af:(⟨#[32]⟩:ByteArray).size=1:=rfl;have hw:=tI (s.extract k (k+1));have p:(s.extract k (k+1)=⟨#[63,46]⟩)↔(((bl s).drop k).take 1=[63,46]):=by
   constructor
   ·intro h;rw[←l,h]
   ·intro h;apply wF;rw[l,h]
  have x:=fun w μ hμ=>qC (s.extract k (k+1)) 32 (v:=Lib.indexByte (((bl s).drop k).take 1) 32) (by rw[l];rfl) w μ hμ;have aa:jS ((bl s).drop k)=if jG ((bl s).drop k) 1=true then 1 else AU ((bl s).drop k) (1-1):=hJ;have o:jG ((bl s).drop k) 1=false→jS ((bl s).drop k)=AU ((bl s).drop k) (1-1):=fun h=>by rw[aa,h];rfl
  have r:jG ((bl s).drop k) 1=(decide (k+1≤s.size)&&decide (Lib.indexByte (((bl s).drop k).take 1) 32<0)&& !(decide (((bl s).drop k).take 1=[63,46])&&kH s (k+1))&&Lib.contains (gE 1) ([32]++((bl s).drop k).take 1++[32])):=zP s k 1 hk;have q:True:=trivial;have hc:True:=trivial;by_cases h1:k+1≤s.size
  ·by_cases h2:Lib.indexByte (((bl s).drop k).take 1) 32<0
   ·by_cases h3:((bl s).drop k).take 1=[63,46]∧kH s (k+1)=true
    ·have ag:=p.2 h3.1;have j:=o (by rw[r,decide_eq_true h3.1,h3.2];simp);obtain⟨u,q⟩:=(kG s (k+1)).1 h3.2;try repeat' (first|refine KO ?_|refine K2 124 (fun w μc hw d=>x w μc hw) ?_|refine K2 100 (fun w μc hw d=>eZ _ q (fQ _ _) (fR _ _) w μc hw) ?_|(refine KV (b:=by first|exact U2 (k+1)|((with_reducible apply cA k (k+1));(iterate 5 exact rfl);(exact rfl);omega;omega)) (c:=?_))|refine KZ ?_)
     exact J4 (1-1) ⟨by omega,j⟩ (by omega)
    ·cases hc:Lib.contains (gE 1) ([32]++((bl s).drop k).take 1++[32])with
     | false=>
       have j:=o (by rw[r,hc];simp);by_cases h4:((bl s).drop k).take 1=[63,46]
       ·have z:=p.2 h4;by_cases u:k+1<s.size
        ·have q:mV (bAt s (k+1))=false:=by
          cases y:mV (bAt s (k+1))with
          |false=>rfl
          |true=>exact absurd ⟨h4,(kG s (k+1)).2 ⟨u,y⟩⟩ h3
         try repeat' (first|refine KO ?_|refine K2 124 (fun w μc hw d=>x w μc hw) ?_|refine K2 100 (fun w μc hw d=>eZ _ q (fQ _ _) (fR _ _) w μc hw) ?_|((with_reducible apply F1 121);exact rfl;exact EN;exact fun w μc g d=>dI _ _ (by decide+kernel) (tab:=gE 1) (by kernel_rfl) (by rw[l,hc]) w μc g (hM.mono d.le))|(refine KV (b:=by first|exact U2 (k+1)|((with_reducible apply cA k (k+1));(iterate 5 exact rfl);(exact rfl);omega;omega)|((with_reducible apply eH 1);(iterate 4 exact rfl);(exact rfl);omega)|((with_reducible apply iG);exact rfl;exact rfl;omega)) (c:=?_))|refine KZ ?_)
         exact J4 (1-1) ⟨by omega,j⟩ (by omega)
        ·try repeat' (first|refine KO ?_|refine K2 124 (fun w μc hw d=>x w μc hw) ?_|((with_reducible apply F1 121);exact rfl;exact EN;exact fun w μc g d=>dI _ _ (by decide+kernel) (tab:=gE 1) (by kernel_rfl) (by rw[l,hc]) w μc g (hM.mono d.le))|(refine KV (b:=by first|((with_reducible apply cA k (k+1));(iterate 5 exact rfl);(exact rfl);omega;omega)|((with_reducible apply eH 1);(iterate 4 exact rfl);(exact rfl);omega)|((with_reducible apply iG);exact rfl;exact rfl;omega)) (c:=?_))|refine KZ ?_)
         exact J4 (1-1) ⟨by omega,j⟩ (by omega)
       ·have z:¬(s.extract k (k+1)=⟨#[63,46]⟩):=fun h=>h4 (p.1 h);try repeat' (first|refine KO ?_|refine K2 124 (fun w μc hw d=>x w μc hw) ?_|((with_reducible apply F1 121);exact rfl;exact EN;exact fun w μc g d=>dI _ _ (by decide+kernel) (tab:=gE 1) (by kernel_rfl) (by rw[l,hc]) w μc g (hM.mono d.le))|(refine KV (b:=by first|((with_reducible apply cA k (k+1));(iterate 5 exact rfl);(exact rfl);omega;omega)|((with_reducible apply eH 1);(iterate 4 exact rfl);(exact rfl);omega)|((with_reducible apply iG);exact rfl;exact rfl;omega)) (c:=?_))|refine KZ ?_)
        exact J4 (1-1) ⟨by omega,j⟩ (by omega)
     | true=>
       have ad:(decide (((bl s).drop k).take 1=[63,46])&&kH s (k+1))=false:=by
        cases ab:kH s (k+1)with
        |false=>simp
        |true=>rw[decide_eq_false (fun h=>h3 ⟨h,ab⟩)];rfl
       have j:jS ((bl s).drop k)=1:=by rw[aa,r,hc,ad,decide_eq_true h1,decide_eq_true h2];rfl
       have hQ:sP ((bl s).drop k)=.ok ⟨5,1,0,((bl s).drop k).take 1,false⟩:=by unfold sP;rw[j];rfl
       rw[hQ]at hv he;obtain rfl:v1=oN ⟨5,k,(k:Int)+1,0,s.extract k (k+1),false,false⟩:=by rw[←hv,hx];rfl
       subst he;by_cases h4:((bl s).drop k).take 1=[63,46]
       ·have z:=p.2 h4;by_cases u:k+1<s.size
        ·have q:mV (bAt s (k+1))=false:=by
          cases y:mV (bAt s (k+1))with
          |false=>rfl
          |true=>exact absurd ⟨h4,(kG s (k+1)).2 ⟨u,y⟩⟩ h3
         try repeat' (first|refine KO ?_|refine K2 124 (fun w μc hw d=>x w μc hw) ?_|refine K2 100 (fun w μc hw d=>eZ _ q (fQ _ _) (fR _ _) w μc hw) ?_|((with_reducible apply F1 121);exact rfl;exact EN;exact fun w μc g d=>dI _ _ (by decide+kernel) (tab:=gE 1) (by kernel_rfl) (by rw[l,hc]) w μc g (hM.mono d.le))|(refine KV (b:=by first|exact U2 (k+1)|((with_reducible apply cA k (k+1));(iterate 5 exact rfl);(exact rfl);omega;omega)|((with_reducible apply eH 1);(iterate 4 exact rfl);(exact rfl);omega)|((with_reducible apply iG);exact rfl;exact rfl;omega)) (c:=?_))|refine KZ ?_)
         exact eY rfl (RG 1 rfl rfl rfl rfl rfl) (aN rfl) rfl rfl
        ·try repeat' (first|refine KO ?_|refine K2 124 (fun w μc hw d=>x w μc hw) ?_|((with_reducible apply F1 121);exact rfl;exact EN;exact fun w μc g d=>dI _ _ (by decide+kernel) (tab:=gE 1) (by kernel_rfl) (by rw[l,hc]) w μc g (hM.mono d.le))|(refine KV (b:=by first|((with_reducible apply cA k (k+1));(iterate 5 exact rfl);(exact rfl);omega;omega)|((with_reducible apply eH 1);(iterate 4 exact rfl);(exact rfl);omega)|((with_reducible apply iG);exact rfl;exact rfl;omega)) (c:=?_))|refine KZ ?_)
         exact eY rfl (RG 1 rfl rfl rfl rfl rfl) (aN rfl) rfl rfl
       ·have z:¬(s.extract k (k+1)=⟨#[63,46]⟩):=fun h=>h4 (p.1 h);try repeat' (first|refine KO ?_|refine K2 124 (fun w μc hw d=>x w μc hw) ?_|((with_reducible apply F1 121);exact rfl;exact EN;exact fun w μc g d=>dI _ _ (by decide+kernel) (tab:=gE 1) (by kernel_rfl) (by rw[l,hc]) w μc g (hM.mono d.le))|(refine KV (b:=by first|((with_reducible apply cA k (k+1));(iterate 5 exact rfl);(exact rfl);omega;omega)|((with_reducible apply eH 1);(iterate 4 exact rfl);(exact rfl);omega)|((with_reducible apply iG);exact rfl;exact rfl;omega)) (c:=?_))|refine KZ ?_)
        exact eY rfl (RG 1 rfl rfl rfl rfl rfl) (aN rfl) rfl rfl
   ·have j:=o (by rw[r,decide_eq_false h2];simp);try repeat' (first|refine KO ?_|refine K2 124 (fun w μc hw d=>x w μc hw) ?_|(refine KV (b:=by((with_reducible apply cA k (k+1));(iterate 5 exact rfl);exact rfl;omega;omega)) (c:=?_))|refine KZ ?_)
    exact J4 (1-1) ⟨by omega,j⟩ (by omega)
  ·have j:=o (by rw[r,decide_eq_false h1];rfl);try repeat' (refine KZ ?_)
   exact J4 (1-1) ⟨by omega,j⟩ (by omega)
 ·have hQ:sP ((bl s).drop k)=.error 20:=by have h0:jS ((bl s).drop k)=0:=hJ;unfold sP;rw[if_pos h0]
  rw[hQ]at hv he;subst hv he;try repeat' (refine KZ ?_)
  exact eY rfl (RG 1 rfl rfl rfl rfl rfl) (aN rfl) rfl rfl
end Go.Proofs.YtknieidhopbngaaGreat
