/- strings.ContainsAny at the two line terminators, at every text, ASCII or not: the library's own text is walked. -/
import Derived.Test.YtknieidhopbngaaGreatShelf
import Derived.Shelf.Strings.IndexAnyAll
import Derived.Shelf.Strings.Runes
import Derived.Lib.DecodeN
import Derived.Laws.IdiomStrings
import Derived.Shelf.Small.Utf8
import Derived.Test.YtknieidhopbngaaGreatQac
import Derived.Lib.IndexMore
import Derived.Scope
import Derived.Deep.OwnRows
set_option maxRecDepth 20000
set_option maxHeartbeats 2000000
namespace Go.Proofs
open Go.Shelf Go.RowKit Go.Lib
variable{P:Program}{ρ:Ren}
theorem run_next_at(wx:World)(b:Nat)(s:ByteArray)(pos:Nat)(ty:TypeId)(hb:wx.heap[b]? =some (.stringIter s pos))(h:pos<s.size):
 (Instr.next (.pointer (some ⟨b,0,none⟩)) true ty).run P wx=
   .ok (.tuple #[.bool true,.int .i64 pos,.int .i32 (Utf8.decode s pos).1]) { wx with heap:=wx.heap.setIfInBounds b (.stringIter s (pos+ (Utf8.decode s pos).2)) }:=by
 simp only[Instr.next,getObj,setObj,Sem.run_bind,Sem.run,hb,Result.andThen,h,if_true];simp[goInt,Sem.run,hb]
theorem BM(wx:World)(b:Nat)(s:ByteArray)(pos:Nat)(ty:TypeId)(hb:wx.heap[b]? =some (.stringIter s pos))(h:¬pos<s.size):
 (Instr.next (.pointer (some ⟨b,0,none⟩)) true ty).run P wx=.ok (.tuple #[.bool false]) wx:=by
 simp[Instr.next,getObj,Sem.run,hb,h]
def nlS:ByteArray:=⟨#[10,13]⟩
theorem FN(w:World)(s:ByteArray)(pos:Nat):Below w.heap.size w (w.iter s pos):=(Below.refl _ _).alloc (aP _) _
theorem MY{r:Int}(h1:128≤r)(h2:Utf8.valid r=true):∃(n:Nat) (x:UInt8),(Utf8.encode r).size=n+2∧n≤2∧(∀h:n+1< (Utf8.encode r).size,(Utf8.encode r)[n+1]'h=x)∧128≤x.toNat:=by
 obtain⟨n,rfl⟩:∃n:Nat,r=n:=⟨r.toNat,by omega⟩;unfold Utf8.encode;rw[if_pos h2];simp only[fG];have a:∀m:Nat,m<64→128≤(UInt8.ofNat (128+m)).toNat:=fun m hm=>by rw[UInt8.toNat_ofNat'];omega
 have hm:n%64<64:=Nat.mod_lt _ (by omega);split
 ·omega
 ·split
  ·exact⟨0,_,rfl,by omega,fun _=>rfl,a _ hm⟩
  ·split
   ·exact⟨1,_,rfl,by omega,fun _=>rfl,a _ hm⟩
   ·exact⟨2,_,rfl,by omega,fun _=>rfl,a _ hm⟩
set_option maxHeartbeats 8000000 in
set_option maxRecDepth 1000000 in
theorem KY(L:Lays.n152 P ρ)(w:World):Vcg.qI P (ρ.f 152) #[.string nlS,.int .i32 65533] w (.int .i64 (-1)):=by
 have t3:=L.t3;have a3:=L.a3;have z3:=L.z3;have v3:=L.v3;have t4:=L.t4;have a4:=L.a4;have z4:=L.z4;have v4:=L.v4;have t5:=L.t5;have a5:=L.a5;have z5:=L.z5;have v5:=L.v5;have t9:=L.t9;have a9:=L.a9;have z9:=L.z9;have v9:=L.v9;have t21:=L.t21;have a21:=L.a21;have z21:=L.z21;have v21:=L.v21
 go_enter L.f152,Body.n152_ntmps ρ
 go_wp2
 go_loopg [5,6] 2 (fun g _ _ wx=>∃i:Nat,i+g=2∧wx=w.iter nlS i)
 case atStart=>exact⟨0,by omega,rfl⟩
 case round=>
  obtain⟨i,b,rfl⟩:=hrel;cases gk with
  | zero=>
    obtain rfl:i=2:=by omega
    have a:=fun ty=>run_next_end (P:=P) w nlS 2 ty (by decide)
    go_wp2
    go_ret
    exact⟨rfl,FN w _ _⟩
  | succ g=>
    have hi:i=0∨i=1:=by omega
    rcases hi with rfl|rfl
    ·have a:=fun ty=>run_next_ascii (P:=P) w nlS 0 ty (by decide) (by decide);rw[show nlS[0]'(by decide)=10 from rfl]at a
     go_wp2
     go_roundg g
     case measure=>omega
     case rel=>exact⟨1,by omega,rfl⟩
    ·have a:=fun ty=>run_next_ascii (P:=P) w nlS 1 ty (by decide) (by decide);rw[show nlS[1]'(by decide)=13 from rfl]at a
     go_wp2
     go_roundg g
     case measure=>omega
     case rel=>exact⟨2,by omega,rfl⟩
theorem NH(s:ByteArray)(g:Nat→Nat)(hg:∀j,(s.get! j).toNat=g j)(i:Nat)(hi:i<s.size)(h:128≤g i):
 128≤(Utf8.decode s i).1∧Utf8.valid (Utf8.decode s i).1=true∧1≤(Utf8.decode s i).2∧i+ (Utf8.decode s i).2≤s.size∧∀j,i≤j→j<i+ (Utf8.decode s i).2→128≤g j:=by
 rw[decode_at,hg,hg,hg,hg];have a:∀k,(∀m,m<k→128≤g (i+m))→∀j,i≤j→j<i+k→128≤g j:=fun k hk j h1 h2=>by have:=hk (j-i) (by omega);rwa[show i+ (j-i)=j by omega]at this
 unfold decodeN;rw[if_neg (by omega)];have one:∀j,i≤j→j<i+1→128≤g j:=a 1 fun m hm=>by
  obtain rfl:m=0:=by omega
  exact h
 have bad:128≤((65533,1):Nat×Nat).1∧Utf8.valid (((65533,1):Nat×Nat).1:Int)=true∧1≤((65533,1):Nat×Nat).2∧i+ ((65533,1):Nat×Nat).2≤s.size∧∀j,i≤j→j<i+ ((65533,1):Nat×Nat).2→128≤g j:=⟨by simp,by decide,by simp,by simp;omega,one⟩;split
 ·rename_i c;split
  ·rename_i d;refine⟨d,by simp[Utf8.valid];omega,by simp,by simp only;omega,a 2 fun m hm=>?_⟩;rcases(show m=0∨m=1 by omega)with rfl|rfl
   ·exact h
   ·omega
  ·exact bad
 ·split
  ·rename_i c;split
   ·rename_i d;refine⟨by simp only;omega,by simp[Utf8.valid];omega,by simp,by simp only;omega,a 3 fun m hm=>?_⟩;rcases(show m=0∨m=1∨m=2 by omega)with rfl|rfl|rfl
    ·exact h
    ·omega
    ·omega
   ·exact bad
  ·split
   ·rename_i c;split
    ·rename_i d;refine⟨by simp only;omega,by simp[Utf8.valid];omega,by simp,by simp only;omega,a 4 fun m hm=>?_⟩;rcases(show m=0∨m=1∨m=2∨m=3 by omega)with rfl|rfl|rfl|rfl
     ·exact h
     ·omega
     ·omega
     ·omega
    ·exact bad
   ·exact bad
theorem QD(s:ByteArray)(i:Nat)(hi:i<s.size)(h:128≤(s.data.toList[i]?.getD 0).toNat):
 128≤(Utf8.decode s i).1∧Utf8.valid (Utf8.decode s i).1=true∧1≤(Utf8.decode s i).2∧i+ (Utf8.decode s i).2≤s.size∧∀j,i≤j→j<i+ (Utf8.decode s i).2→128≤(s.data.toList[j]?.getD 0).toNat:=
 NH s (fun j=>(s.data.toList[j]?.getD 0).toNat) (fun j=>by
  show(s.data[j]!).toNat=_
  rw[Array.getElem?_toList,getElem!_def];cases s.data[j]? <;>rfl) i hi h
set_option maxHeartbeats 8000000 in
set_option maxRecDepth 1000000 in
theorem JM(L:Lays.n153 P ρ)(s chars:ByteArray)(w:World)(h2:2≤chars.size)(h8:s.size≤8)(ag:∀x∈chars.data.toList,x.toNat<128)
 (hR:∀(r:Int) (w:World),128≤r→Utf8.valid r=true→Vcg.qI P (ρ.f 152) #[.string chars,.int .i32 r] w (.int .i64 (-1))):
 Vcg.qI P (ρ.f 153) #[.string s,.string chars] w (.int .i64 (Lib.indexAny s.data.toList chars.data.toList)):=by
 have ao:chars.toList.isEmpty=false:=by
  rw[Lib.toList_data];cases h:chars.data.toList with
  |nil=>have:=Lib.size_eq chars;rw[h,aL]at this;omega
  |cons _ _=>rfl
 have HC:Aside (∀x∈chars.data.toList,x.toNat<128):=ag;clear ag;have ap:((chars.size:Int)==1)=false:=beq_eq_false_iff_ne.2 (by omega);have ak:decide ((8:Int)< (s.size:Int))=false:=decide_eq_false (by omega);have t3:=L.t3;have a3:=L.a3;have z3:=L.z3;have v3:=L.v3;have t4:=L.t4;have a4:=L.a4;have z4:=L.z4;have v4:=L.v4;have t5:=L.t5;have a5:=L.a5;have z5:=L.z5;have v5:=L.v5;have t9:=L.t9;have a9:=L.a9;have z9:=L.z9;have v9:=L.v9;have t21:=L.t21;have a21:=L.a21;have z21:=L.z21;have v21:=L.v21;have e152:∀args w,(callFunc (ρ.f 152) args).run P w=.ok (.enter (ρ.f 152) args) w:=enters_of L.f152 (by kernel_rfl) rfl;have e226:∀args w,(callFunc (ρ.f 226) args).run P w=.ok (.enter (ρ.f 226) args) w:=enters_of L.f226 (by kernel_rfl) rfl
 go_enter L.f153,Body.n153_ntmps ρ
 go_wp2_with (go_at_fn (ρ.f 226);refine(Any.strings_shouldUseASCIISet { L with } _ _).mono ?_;rintro e w' ⟨rfl,hw⟩;rw[hw,ak])
 go_loopg [9,10] s.size (fun g _ _ wx=>∃i:Nat,i≤s.size∧s.size≤i+g∧wx.heap[w.heap.size]? =some (.stringIter s i)∧Below w.heap.size w wx∧Lib.NoAny s.data.toList chars.data.toList i)
 case atStart=>exact⟨0,by omega,by omega,by simp[World.iter_heap],FN w _ _,Lib.NoAny.zero _ _⟩
 case round=>
  obtain⟨i,an,aq,u,v,ad⟩:=hrel;have HN:Aside (Lib.NoAny s.data.toList chars.data.toList i):=ad;clear ad;have HB:Aside (Below w.heap.size w wr):=v;clear v;by_cases hi:i<s.size
  ·cases gk with
   |zero=>omega
   |succ g=>
   obtain⟨x,hx⟩:∃x:UInt8,s[i]'hi=x:=⟨_,rfl⟩;have o:s.data.toList[i]? =some x:=by rw[←hx];exact Lib.data_getElem? s i hi
   have z:=fun ty=>run_next_at (P:=P) wr w.heap.size s i ty u hi;obtain⟨d,hd⟩:∃d,Utf8.decode s i=d:=⟨_,rfl⟩;obtain⟨c,e⟩:=d;rw[hd]at z;obtain⟨wn,p⟩:∃wn:World,wn={ wr with heap:=wr.heap.setIfInBounds w.heap.size (.stringIter s (i+e)) }:=⟨_,rfl⟩;simp only[←p]at z;have ae:w.heap.size<wr.heap.size:=(Array.getElem?_eq_some_iff.1 u).1;have y:wn.heap[w.heap.size]? =some (.stringIter s (i+e)):=by rw[p];simp[ae]
   have af:Below w.heap.size w wn:=by have hb:=HB.out;rw[p];refine⟨hb.1,hb.2,hb.3,by simp;exact Nat.le_of_lt ae,fun b aj=>?_⟩;simp only;rw[cR (by omega)];exact hb.5 b aj
   clear p u;have HB2:Aside (Below w.heap.size w wn):=af;clear af;have Hn:Aside (wn.heap[w.heap.size]? =some (.stringIter s (i+e))):=y;clear y;by_cases ab:x.toNat<128
   ·have ai:c=x.toNat∧e=1:=by have:=decode_ascii s i hi (by rw[hx];exact ab);rw[hd,hx]at this;cases this;exact⟨rfl,rfl⟩
    obtain⟨rfl,rfl⟩:=ai;have Hx:Aside (s.data.toList[i]? =some x):=o;clear o hx hd;have a:=Lib.contains_iff_indexByte chars.data.toList x;have l:((x.toNat:Int)).toNat.toUInt8=x:=by simp
    cases q:chars.data.toList.contains x
    ·rw[q]at a;have al:¬((0:Int)≤Lib.indexByte chars.data.toList x):=of_decide_eq_false a.symm;clear a
     go_wp2_with (go_at_fn (ρ.f 152);refine(Any.strings_IndexRune_ascii { L with } _ _ _ (by omega) (by omega)).mono ?_;rintro e w' ⟨rfl,hw⟩;rw[hw,l])
     go_roundg g
     case measure=>omega
     case rel=>exact⟨i+1,by omega,by omega,Hn.out,HB2.out,HN.out.succ Hx.out q⟩
    ·rw[q]at a;have ar:(0:Int)≤Lib.indexByte chars.data.toList x:=of_decide_eq_true a.symm;clear a
     go_wp2_with (go_at_fn (ρ.f 152);refine(Any.strings_IndexRune_ascii { L with } _ _ _ (by omega) (by omega)).mono ?_;rintro e w' ⟨rfl,hw⟩;rw[hw,l])
     go_ret
     exact⟨by rw[Lib.indexAny_hit HN.out Hx.out q];rfl,HB2.out⟩
   ·have aa:128≤(s.data.toList[i]?.getD 0).toNat:=by rw[o];simpa using ab
    have hf:=QD s i hi aa;rw[hd]at hf;simp only at hf;obtain⟨f1,f2,f3,f4,f5⟩:=hf;have f1' :(128:Int)≤(c:Int):=by omega
    have HF:Aside (∀j,i≤j→j<i+e→128≤(s.data.toList[j]?.getD 0).toNat):=f5;clear f5 hd o hx
    go_wp2_with (go_at_fn (ρ.f 152);refine(hR _ _ f1' f2).mono ?_;rintro e' w' ⟨rfl,hw⟩)
    go_roundg g
    case measure=>omega
    case rel=>
     refine⟨i+e,by omega,by omega,?_,?_,fun j b hj hb=>?_⟩
     ·have hl:=(Array.getElem?_eq_some_iff.1 Hn.out).1;rw[hw.block _ hl];exact Hn.out
     ·exact HB2.out.trans ⟨hw.os,hw.tape,hw.output,hw.size,fun k hk=>hw.block k (by have:=HB2.out.size;omega)⟩
     ·by_cases ah:j<i
      ·exact HN.out j b ah hb
      ·have:=HF.out j (by omega) hj;rw[hb]at this;simp only[Option.getD_some]at this;cases hq:chars.data.toList.contains b with
       |false=>rfl
       |true=>have:=HC.out b (by simpa using hq);omega
  ·have z:=fun ty=>BM (P:=P) wr w.heap.size s i ty u hi
   go_wp2
   go_ret
   obtain rfl:i=s.size:=by omega
   exact⟨by rw[Lib.indexAny_none (by rw[←Lib.size_eq];exact HN.out)];rfl,HB.out⟩
end Go.Proofs
namespace Go.Proofs.YtknieidhopbngaaGreat
open Go.RowKit Go.Vcg
def zZ(c:Int):Bool:=decide (97≤c∧c≤122)||decide (65≤c∧c≤90)||decide (c=95)||decide (c=36)
def mV(c:Int):Bool:=decide (48≤c∧c≤57)
def rP(c:Int):Bool:=decide (c=10)||decide (c=13)
def wsI(c:Int):Bool:=decide (c=32)||decide (c=9)||rP c
def yU(c:Int):Bool:= !rP c
def idI(c:Int):Bool:=zZ c||mV c
def lH(c:Int):Int:=if 48≤c∧c≤57 then c-48 else if 97≤c∧c≤102 then c-97+10 else if 65≤c∧c≤70 then c-65+10 else-1
abbrev on8(p:Int→Bool)(b:UInt8):Bool:=p (b.toNat:Int)
def fN(p:Int→Bool):List UInt8→Nat
 |[]=>0
 |b::r=>if on8 p b then fN p r+1 else 0
abbrev pR{α:Type}(x:Nat×α):Nat×α:=(x.1+1,x.2)
def jA:Nat→Bool→List UInt8→Nat×Bool×Bool
 |_,ln,[]=>(0,ln,true)
 |k+1,ln,_::r=>pR (jA k ln r)
 | 0,ln,b::r=>
   if on8 wsI b then pR (jA 0 (ln||on8 rP b) r)
   else if b=47∧r.head? =some 47 then pR (jA (fN yU r) ln r)
   else if b=47∧r.head? =some 42 then
    if Lib.index (r.drop 1) [42,47]<0 then(0,ln,false)
    else pR (jA ((Lib.index (r.drop 1) [42,47]).toNat+3) (ln||((r.drop 1).take (Lib.index (r.drop 1) [42,47]).toNat).any (on8 rP)) r)
   else(0,ln,true)
structure T1 where
 k:Int
 len:Nat
 n:Int
 s:List UInt8
 op:Bool
def tV:Int:=9007199254740992
def cI(base:Int):List UInt8→Int→Bool→Int×Nat×Bool
 |[],n,ok=>(n,0,ok)
 | b::r,n,ok=>
   if lH b.toNat<0∨lH b.toNat≥base then(n,0,ok)
   else if n*base+lH b.toNat>tV then((cI base r 0 false).1,(cI base r 0 false).2.1+1,(cI base r 0 false).2.2)
   else((cI base r (n*base+lH b.toNat) ok).1,(cI base r (n*base+lH b.toNat) ok).2.1+1,(cI base r (n*base+lH b.toNat) ok).2.2)
def uP(xs:List UInt8):Int×Nat×Bool:=
 if[48,120].isPrefixOf xs then((cI 16 (xs.drop 2) 0 true).1,(cI 16 (xs.drop 2) 0 true).2.1+2,(cI 16 (xs.drop 2) 0 true).2.2&&decide (0< (cI 16 (xs.drop 2) 0 true).2.1))
 else cI 10 xs 0 true
def PN(xs:List UInt8)(i:Nat):Bool:=match xs[i]? with
 |some c=>on8 idI c
 |none=>false
def BO(xs:List UInt8):Except Int (Int×Nat):=
 if xs.head? =some 48∧1< (cI 10 xs 0 true).2.1 then .error 22
 else if(uP xs).2.2=false∨PN xs (uP xs).2.1=true then .error 22
 else .ok ((uP xs).1,(uP xs).2.1)
def oZ:List UInt8:=[110,116,114,48,92,39,34,96,36]
def aDu:List UInt8:=[10,9,13,0,92,39,34,96,36]
def AG:List UInt8→Except Int (UInt8×Nat)
 |[]=>.error 8
 |[g]=>if lH g.toNat<0 then .error 21 else .error 8
 |g::h::_=>if lH g.toNat<0 then .error 21 else if lH h.toNat<0 then .error 21 else .ok (UInt8.ofNat ((lH g.toNat)*16+lH h.toNat).toNat,3)
def vX:List UInt8→Except Int (UInt8×Nat)
 |[]=>.error 8
 | c::r=>
   if 0≤Lib.indexByte oZ c then .ok (aDu.getD (Lib.indexByte oZ c).toNat 0,1)
   else if c≠120 then .error 21 else AG r
def oK(c:UInt8)(x:Except Int (List UInt8×Nat)):Except Int (List UInt8×Nat):=match x with
 |.ok (o,n)=>.ok (c::o,n+1)
 |.error e=>.error e
def xF(x:Except Int (List UInt8×Nat)):Except Int (List UInt8×Nat):=match x with
 |.ok (o,n)=>.ok (o,n+1)
 |.error e=>.error e
def qK(q:UInt8):Nat→List UInt8→Except Int (List UInt8×Nat)
 |_,[]=>.error 8
 |k+1,_::r=>xF (qK q k r)
 | 0,b::r=>
   if b=q then .ok ([],1)else if on8 rP b then .error 22 else if b≠92 then oK b (qK q 0 r)
   else match vX r with
    |.error e=>.error e
    |.ok (c,n)=>oK c (qK q n r)
def pK:Nat→List UInt8→Except Int (List UInt8×Nat)
 |_,[]=>.error 8
 |k+1,_::r=>xF (pK k r)
 | 0,b::r=>
   if(b=36∧r.head? =some 123)∨b=96 then .ok ([],1)else if b≠92 then oK b (pK 0 r)
   else match vX r with
    |.error e=>.error e
    |.ok (c,n)=>oK c (pK n r)
def CW:List UInt8:=[32,98,114,101,97,107,32,99,97,115,101,32,99,97,116,99,104,32,99,111,110,115,116,32,99,111,110,116,105,110,117,101,32,100,101,98,117,103,103,101,114,32,100,101,102,97,117,108,116,32,100,101,108,101,116,101,32,100,111,32,101,108,115,101,32,102,97,108,115,101,32,102,105,110,97,108,108,121,32,102,111,114,32,102,117,110,99,116,105,111,110,32,105,102,32,105,110,32,105,110,115,116,97,110,99,101,111,102,32,110,101,119,32,110,117,108,108,32,114,101,116,117,114,110,32,115,119,105,116,99,104,32,116,104,105,115,32,116,104,114,111,119,32,116,114,117,101,32,116,114,121,32,116,121,112,101,111,102,32,118,97,114,32,118,111,105,100,32,119,104,105,108,101,32,119,105,116,104,32,99,108,97,115,115,32,101,110,117,109,32,101,120,112,111,114,116,32,101,120,116,101,110,100,115,32,105,109,112,111,114,116,32,115,117,112,101,114,32]
def OF:List UInt8:=[32,123,32,125,32,40,32,41,32,91,32,93,32,46,32,59,32,44,32,60,32,62,32,43,32,45,32,42,32,47,32,37,32,38,32,124,32,94,32,33,32,126,32,63,32,58,32,61,32]
def OE:List UInt8:=[32,60,61,32,62,61,32,61,61,32,33,61,32,43,43,32,45,45,32,38,38,32,124,124,32,63,63,32,63,46,32,43,61,32,45,61,32,42,61,32,47,61,32,37,61,32,38,61,32,124,61,32,94,61,32,60,60,32,62,62,32,61,62,32]
def OD:List UInt8:=[32,46,46,46,32,61,61,61,32,33,61,61,32,60,60,61,32,62,62,61,32,38,38,61,32,124,124,61,32,63,63,61,32]
def gE:Nat→List UInt8
 |1=>OF
 |2=>OE
 |3=>OD
 |_=>[]
def NG(xs:List UInt8)(i:Nat):Bool:=match xs[i]? with
 |some c=>on8 mV c
 |none=>false
def jG(xs:List UInt8)(n:Nat):Bool:=
 decide (n≤xs.length)&&decide (Lib.indexByte (xs.take n) 32<0)&& !(decide (xs.take n=[63,46])&&NG xs n)&&Lib.contains (gE n) ([32]++xs.take n++[32])
def jS(xs:List UInt8):Nat:=if jG xs 3 then 3 else if jG xs 2 then 2 else if jG xs 1 then 1 else 0
def sV(xs:List UInt8)(tail:Bool):Except Int T1:=match xs with
 |[]=>.ok ⟨0,0,0,[],false⟩
 | c::r=>
   if on8 zZ c then .ok ⟨if Lib.contains CW ([32]++(c::r).take (fN idI (c::r))++[32])then 2 else 1,fN idI (c::r),0,(c::r).take (fN idI (c::r)),false⟩
   else if on8 mV c then match BO (c::r)with
    |.error e=>.error e
    |.ok (n,m)=>.ok ⟨3,m,n,[],false⟩
   else if c=34∨c=39 then match qK c 0 r with
    |.error e=>.error e
    |.ok (o,m)=>.ok ⟨4,m+1,0,o,false⟩
   else if c=96∨(c=125∧tail=true)then match pK 0 r with
    |.error e=>.error e
    |.ok (o,m)=>.ok ⟨6,if r[m-1]? =some 36 then m+2 else m+1,if c=125 then 1 else 0,o,decide (r[m-1]? =some 36)⟩
   else if jS (c::r)=0 then .error 20 else .ok ⟨5,jS (c::r),0,(c::r).take (jS (c::r)),false⟩
theorem rF(p:Int→Bool):∀xs:List UInt8,fN p xs≤xs.length
 |[]=>by simp[fN]
 | b::r=>by
   unfold fN;split
   ·simp only[aF];have:=rF p r;omega
   ·simp
theorem BS(p xs:List UInt8){m:Nat}(h:p.length≤m):p.isPrefixOf (xs.take m)=p.isPrefixOf xs:=by
 induction p generalizing xs m with
 |nil=>simp
 | cons a p ih=>
   cases m with
   |zero=>simp at h
   | succ m=>
     cases xs with
     |nil=>simp
     | cons b r=>
       simp only[dM,List.isPrefixOf];rw[ih r (by simpa using h)]
theorem head_take{xs:List UInt8}{m:Nat}(h:0<m):(xs.take m).head? =xs.head?:=by
 cases m with
 |zero=>omega
 |succ m=>cases xs<;>simp
theorem oS(base:Int):∀(xs:List UInt8) (n:Int) (ok:Bool),(cI base xs n ok).2.1≤xs.length
 |[],n,ok=>by simp[cI]
 | b::r,n,ok=>by
   unfold cI;split
   ·simp
   ·split
    ·have:=oS base r 0 false;simp only[aF];omega
    ·have:=oS base r (n*base+lH b.toNat) ok;simp only[aF];omega
theorem qF(base:Int):∀(xs:List UInt8) (n:Int) (ok:Bool) (m:Nat),(cI base xs n ok).2.1≤m→cI base (xs.take m) n ok=cI base xs n ok
 |[],n,ok,m,_=>by simp
 | b ::r,n,ok,m,h=>by
   cases m with
   | zero=>
     unfold cI at h⊢;split at h
     ·rename_i hb;simp[hb]
     ·split at h<;>(simp only at h;omega)
   | succ m=>
     simp only[dM];unfold cI at h⊢;split
     ·rfl
     ·rename_i hb;rw[if_neg hb]at h;split
      ·rename_i hc;rw[if_pos hc]at h;rw[qF base r 0 false m (by simp only at h;omega)]
      ·rename_i hc;rw[if_neg hc]at h;rw[qF base r _ ok m (by simp only at h;omega)]
theorem VL(xs:List UInt8)(m:Nat):PN (xs.take m) m=false:=by
 unfold PN;rw[dQ (by simp;omega)]
theorem YK(xs:List UInt8):(uP xs).2.1≤xs.length:=by
 unfold uP;split
 ·rename_i h;have:=oS 16 (xs.drop 2) 0 true;simp only[bC]at this;have:2≤xs.length:=by have:=(List.isPrefixOf_iff_prefix.1 h).length_le;simpa using this
  simp only;omega
 ·exact oS 10 xs 0 true
theorem VE{xs:List UInt8}{n:Int}{m:Nat}(h:BO xs=.ok (n,m)):m≤xs.length∧BO (xs.take m)=.ok (n,m)∧(xs.head?.any (on8 mV)=true→0<m):=by
 unfold BO at h;split at h
 ·cases h
 ·rename_i h1;split at h
  ·cases h
  ·rename_i h2;simp only[mB,cD]at h;obtain⟨hn,hm⟩:=h;have hle:=YK xs;rw[hm]at hle;simp only[not_or,Bool.not_eq_false,jR]at h2;obtain⟨h2,h3⟩:=h2;have hb:uP (xs.take m)=uP xs∧(cI 10 (xs.take m) 0 true).2.1≤(cI 10 xs 0 true).2.1∧(xs.head?.any (on8 mV)=true→0<m):=by
    unfold uP at h2 hm⊢;by_cases hp:[48,120].isPrefixOf xs=true
    ·rw[if_pos hp]at h2 hm;simp only[aM,decide_eq_true_eq]at h2;simp only at hm;have a:[48,120].isPrefixOf (xs.take m)=true:=by rw[BS _ _ (by simp;omega)];exact hp
     rw[if_pos a,if_pos hp];have hd:(xs.take m).drop 2=(xs.drop 2).take (m-2):=by rw[List.drop_take]
     rw[hd,qF 16 _ 0 true (m-2) (by omega)];refine⟨rfl,?_,fun _=>by omega⟩;obtain⟨r,hr⟩:=List.isPrefixOf_iff_prefix.1 hp;subst hr;obtain⟨k,rfl⟩:∃k,m=k+2:=⟨m-2,by omega⟩;simp[cI,lH,tV]
    ·rw[if_neg hp]at h2 hm;have a:¬[48,120].isPrefixOf (xs.take m)=true:=by intro g;apply hp;rw[List.isPrefixOf_iff_prefix]at g⊢;exact g.trans (List.take_prefix _ _)
     rw[if_neg a,if_neg hp,qF 10 xs 0 true m (by omega)];refine⟨rfl,aP _,fun hd=>?_⟩;cases xs with
     |nil=>simp at hd
     | cons b r=>
       simp[on8,mV]at hd;unfold cI at hm;rw[if_neg (by unfold lH;rw[if_pos (by omega)];omega)]at hm;split at hm<;>simp only at hm<;>omega
   refine⟨hle,?_,hb.2.2⟩;unfold BO;rw[hb.1];rw[if_neg (by
    rintro⟨ha,i⟩;have c:0<m:=by
     rcases gK m with d|d
     ·rw[d]at ha;simp at ha
     ·exact d
    rw[head_take c]at ha;exact h1 ⟨ha,by omega⟩)]
   rw[if_neg (by
    rintro(ha|ha)
    ·rw[h2]at ha;cases ha
    ·rw[hm,VL]at ha;cases ha)]
   rw[hn,hm]
theorem AF{r:List UInt8}{c:UInt8}{n:Nat}(h:vX r=.ok (c,n)):0<n∧n≤r.length∧∀m,n≤m→vX (r.take m)=.ok (c,n):=by
 cases r with
 |nil=>simp[vX]at h
 | cons b r=>
   rw[vX]at h;by_cases h1:0≤Lib.indexByte oZ b
   ·rw[if_pos h1]at h;simp only[mB,cD]at h;obtain⟨hc,hn⟩:=h;subst hn;refine⟨by omega,by simp,fun m hm=>?_⟩;obtain⟨k,rfl⟩:∃k,m=k+1:=⟨m-1,by omega⟩;simp only[dM];rw[vX,if_pos h1,hc]
   ·rw [if_neg h1]at h;by_cases h2:b≠120
    ·rw[if_pos h2]at h;cases h
    ·rw [if_neg h2]at h;match r,h with
     |[],h=>simp[AG]at h
     |[g],h=>rw[AG]at h;split at h<;>cases h
     | g ::e::r,h=>
       rw[AG]at h;by_cases h3:lH g.toNat<0
       ·rw[if_pos h3]at h;cases h
       ·rw[if_neg h3]at h;by_cases h4:lH e.toNat<0
        ·rw[if_pos h4]at h;cases h
        ·rw[if_neg h4]at h;simp only[mB,cD]at h;obtain⟨hc,hn⟩:=h;subst hn;refine⟨by omega,by simp,fun m hm=>?_⟩;obtain⟨k,rfl⟩:∃k,m=k+3:=⟨m-3,by omega⟩;simp only[dM];rw[vX,if_neg h1,if_neg h2,AG,if_neg h3,if_neg h4,hc]
theorem SE{q:UInt8}:∀{xs:List UInt8} {k n:Nat} {o:List UInt8},qK q k xs=.ok (o,n)→k+1≤n∧n≤xs.length
 |[],k,n,o,h=>by simp[qK]at h
 | b::r,k+1,n,o,h=>by
   unfold qK xF at h;split at h
   ·rename_i o' n' hr;cases h;have:=SE hr;simp only[aF];omega
   ·cases h
 | b :: r,0,n,o,h=>by
   unfold qK at h;split at h
   ·cases h;simp
   ·split at h
    ·cases h
    ·split at h
     ·unfold oK at h;split at h
      ·rename_i o' n' hr;cases h;have:=SE hr;simp only[aF];omega
      ·cases h
     ·split at h
      ·cases h
      ·unfold oK at h;split at h
       ·rename_i o' n' hr;cases h;have:=SE hr;simp only[aF];omega
       ·cases h
theorem SJ:∀{xs:List UInt8} {k n:Nat} {o:List UInt8},pK k xs=.ok (o,n)→k+1≤n∧n≤xs.length∧(xs[n-1]? =some 96∨(xs[n-1]? =some 36∧xs[n]? =some 123))
 |[],k,n,o,h=>by simp[pK]at h
 | b::r,k+1,n,o,h=>by
   unfold pK xF at h;split at h
   ·rename_i o' n' hr;cases h;obtain⟨h1,h2,h3⟩:=SJ hr;refine⟨by omega,by simp;omega,?_⟩;obtain⟨j,rfl⟩:∃j,n' =j+1:=⟨n' -1,by omega⟩;simpa using h3
   ·cases h
 | b ::r,0,n,o,h=>by
   unfold pK at h;split at h
   ·rename_i hb;cases h;refine⟨by omega,by simp,?_⟩;rcases hb with⟨rfl,hb⟩|rfl
    ·right;refine⟨by simp,?_⟩;cases r with
     |nil=>simp at hb
     |cons x y=>simpa using hb
    ·left;simp
   ·split at h
    ·unfold oK at h;split at h
     ·rename_i o' n' hr;cases h;obtain⟨h1,h2,h3⟩:=SJ hr;refine⟨by omega,by simp;omega,?_⟩;obtain⟨j,rfl⟩:∃j,n' =j+1:=⟨n' -1,by omega⟩;simpa using h3
     ·cases h
    ·split at h
     ·cases h
     ·unfold oK at h;split at h
      ·rename_i o' n' hr;cases h;obtain⟨h1,h2,h3⟩:=SJ hr;refine⟨by omega,by simp;omega,?_⟩;obtain⟨j,rfl⟩:∃j,n' =j+1:=⟨n' -1,by omega⟩;simpa using h3
      ·cases h
theorem wK{xs:List UInt8}{n:Nat}(h:jG xs n=true):n≤xs.length:=by
 unfold jG at h;simp only[aM,decide_eq_true_eq]at h;exact h.1.1.1
theorem QB(xs:List UInt8)(m:Nat):NG (xs.take m) m=false:=by
 unfold NG;rw[dQ (by simp;omega)]
theorem uW{xs:List UInt8}{n:Nat}(h:jG xs n=true):jG (xs.take n) n=true:=by
 have hle:=wK h;unfold jG at h⊢;simp only[aM,decide_eq_true_eq]at h;rw[List.take_take,Nat.min_self,QB];simp only[fV,Bool.not_false,eX,aM,decide_eq_true_eq];exact⟨⟨by simp;omega,h.1.1.2⟩,h.2⟩
theorem tN{xs:List UInt8}{n m:Nat}(h:m<n):jG (xs.take m) n=false:=by
 unfold jG;have:decide (n≤(xs.take m).length)=false:=by simp;omega
 rw[this];simp
theorem OC{xs:List UInt8}(h:jS xs≠0):jS xs≤xs.length∧jS (xs.take (jS xs))=jS xs:=by
 cases h3:jG xs 3 with
 | true=>
   have e:jS xs=3:=by simp[jS,h3]
   rw[e];exact⟨wK h3,by simp[jS,uW h3]⟩
 | false=>
   cases h2:jG xs 2 with
   | true=>
     have e:jS xs=2:=by simp[jS,h3,h2]
     rw[e];exact⟨wK h2,by simp[jS,uW h2,tN (xs:=xs) (show 2<3 by omega)]⟩
   | false=>
     cases h1:jG xs 1 with
     | true=>
       have e:jS xs=1:=by simp[jS,h3,h2,h1]
       rw[e];exact⟨wK h1,by simp[jS,uW h1,tN (xs:=xs) (show 1<3 by omega),tN (xs:=xs) (show 1<2 by omega)]⟩
     |false=>exact absurd (by simp[jS,h3,h2,h1]) h
theorem CN{xs:List UInt8}{tail:Bool}{t:T1}(h:sV xs tail=.ok t):t.len≤xs.length∧(xs≠[]→0<t.len∧t.k≠0)∧(xs=[]→t.k=0):=by
 unfold sV at h;split at h
 ·cases h;simp
 ·rename_i c r;split at h
  ·rename_i hl;cases h;refine⟨rF _ _,fun _=>⟨?_,?_⟩,by simp⟩
   ·unfold fN;rw[if_pos (by simp[idI,hl])];omega
   ·simp only;split<;>omega
  ·split at h
   ·rename_i hd;split at h
    ·cases h
    ·rename_i n m hn;cases h;obtain⟨a,_,b⟩:=VE hn;exact⟨a,fun _=>⟨b (by simpa using hd),by simp⟩,by simp⟩
   ·split at h
    ·split at h
     ·cases h
     ·rename_i o m d;cases h;have:=SE d;exact⟨by simp only[aF];omega,fun _=>⟨by simp,by simp⟩,by simp⟩
    ·split at h
     ·split at h
      ·cases h
      ·rename_i o m d;cases h;obtain⟨a,b,e⟩:=SJ d;refine⟨?_,fun _=>⟨by simp only;split<;>omega,by simp⟩,by simp⟩;simp only[aF];split
       ·rename_i g;rw[g]at e;have:=(List.getElem?_eq_some_iff.1 (e.resolve_left (by simp)).2).1;omega
       ·omega
     ·split at h
      ·cases h
      ·rename_i hs;cases h;exact⟨(OC hs).1,fun _=>⟨by simp only;omega,by simp⟩,by simp⟩
end Go.Proofs.YtknieidhopbngaaGreat
namespace Go.Vcg
open Go.RowKit
section
variable{P:Program}{X:Ctx}{Q:Exit→Act→World→Prop}{μ:Mem}{l:bG}{L:List Bk}
theorem MN{c:Code}(h:GC P X c (Exit.noGoto Q) μ l L):GC P X (.scope c) Q μ l L:=fun a w hs=>wp_scope_straight (h a w hs)
theorem BD(h:GQ X Q .ret μ l L):GQ X (Exit.noGoto Q) .ret μ l L:=h
variable{ty:TypeId}{pos:String}{af:Array Edge}{gd:Option (Nat×Bool)}{ds:Option Nat}
theorem NX{p:Operand}{t u:TypeId}{k:IntKind}{x:Int}(hx0:ev l p=some (.int k x))(ht:P.underlying t=some (.int k))(hu:P.underlying u=some .string):Val P μ l L ⟨ds,.convert t u p,ty,pos,af,gd⟩ (.string (Utf8.encode x)):=
 fun a w hs=>by have e0:=hs.eval hx0;generalize a.eval=ρ at e0;simp[execOp,e0,convert,run_underlying ht,run_underlying hu,Conv.intToString]
end
end Go.Vcg
namespace Go.Proofs.YtknieidhopbngaaGreat
section
open Go.RowKit Go.Vcg
theorem zB(chars:List UInt8):∀l:List UInt8,decide (0≤Lib.indexAny l chars)=l.any chars.contains
 |[]=>rfl
 | b ::l=>by
   unfold Lib.indexAny;simp only[iC];rw[←zB chars l];have:=Lib.indexAny_ge chars l;cases h:chars.contains b with
   |true=>simp
   | false=>
     simp only[cB,if_false,Bool.false_or];by_cases h2:Lib.indexAny l chars= -1
     ·rw[h2];decide
     ·rw[if_neg (by simpa using h2)];congr 1;apply propext;constructor<;>intro<;>omega
theorem aC4(l:List UInt8):l.any ([10,13]:List UInt8).contains=l.any (on8 rP):=by
 congr 1;funext b;simp only[on8,rP,List.contains_cons,List.contains_nil,gC];have h1:(b==10)=decide ((b.toNat:Int)=10):=by
  rw[Bool.eq_iff_iff];simp only[beq_iff_eq,decide_eq_true_eq];constructor
  ·rintro rfl;rfl
  ·intro h;apply UInt8.toNat_inj.1;show b.toNat=10;omega
 have h2:(b==13)=decide ((b.toNat:Int)=13):=by
  rw[Bool.eq_iff_iff];simp only[beq_iff_eq,decide_eq_true_eq];constructor
  ·rintro rfl;rfl
  ·intro h;apply UInt8.toNat_inj.1;show b.toNat=13;omega
 rw[h1,h2]
attribute [local irreducible] G GC GQ GA dV Calls IntKind.wrap Int.decLt Int.decLe
theorem MM(s p:ByteArray)(hs:s.size≤9223372036854775807)(a:p.size≤9223372036854775807)(w:World)(μ:Mem)(hμ:MOk μ w):
 aO 118 #[.string s,.string p] w (.bool (decide ((bl s).take p.size=bl p))):=by
 refine aQ Tryz.func118 rfl Tryz.ntmps118 (by simp) hμ ?_;try repeat' (first|refine KO ?_|(refine KV (b:=by((with_reducible apply KH p.size);(iterate 4 exact rfl);omega)) (c:=?_))|refine KZ ?_|(refine KB ?_ ?_<;>intro hp))
 ·refine bL rfl rfl ?_;congr 2;apply propext;constructor
  ·intro h;have:=congrArg bl h;rw[oU]at this;simpa using this
  ·intro h;apply wF;rw[oU];simpa using h
 ·refine bL rfl rfl ?_;have:¬(bl s).take p.size=bl p:=fun h=>by have:=congrArg List.length h;rw[bZ,dU,dU]at this;omega
  simp[this]
theorem EK(s p:ByteArray)(hs:s.size≤9223372036854775807)(a:p.size≤9223372036854775807)(w:World)(μ:Mem)(hμ:MOk μ w):
 aO 95 #[.string s,.string p] w (.bool (decide ((bl s).take p.size=bl p))):=by
 refine aQ Tryz.func95 rfl Tryz.ntmps95 (by simp) hμ ?_;try repeat' (first|refine KO ?_|((with_reducible apply C1);exact rfl;exact EN;exact fun w μc hw b=>MM s p hs a w μc hw))
 exact bL rfl rfl rfl
theorem vP(s:ByteArray)(c:Int)(w:World)(μ:Mem)(hμ:MOk μ w):
 aO 124 #[.string s,.int .u8 c] w (.int .i64 (Lib.indexByte (bl s) c.toNat.toUInt8)):=
 (Any.strings_IndexByte Tryz.lays137 s c w).mono fun e w' ⟨h1,h2⟩=>⟨h1,h2▸Below.refl _ _⟩
theorem GJ(s:ByteArray)(c:Int)(h:Lib.indexByte (bl s) c.toNat.toUInt8= -1)(w:World)(μ:Mem)(hμ:MOk μ w):
 aO 124 #[.string s,.int .u8 c] w (.int .i64 (-1)):=by
 have:=vP s c w μ hμ;rwa[h]at this
theorem CX(r:Int)(h2:Utf8.valid r=true)(w:World)(μ:Mem)(hμ:MOk μ w):
 aO 153 #[.int .i32 r] w (.bool true):=by
 refine aQ Tryz.func153 rfl Tryz.ntmps153 (by simp) hμ ?_;simp[Utf8.valid]at h2;try repeat' (first|refine KZ ?_|(refine KB ?_ ?_<;>intro hp))
 all_goals exact bL rfl rfl rfl
theorem OH(w:World)(μ:Mem)(hμ:MOk μ w)(r:Int)(h1:128≤r)(h2:Utf8.valid r=true)(h3:¬r=65533):
 aO 135 #[.string nlS,.int .i32 r] w (.int .i64 (-1)):=by
 obtain⟨n,x,hn,q,o,l⟩:=MY h1 h2;have k:nlS.size=2:=rfl;refine aQ Tryz.func135 rfl Tryz.ntmps135 (by simp) hμ ?_;try repeat' (first|(with_reducible (apply MN))|refine KO ?_|refine K2 153 (fun w μc hw g=>CX r h2 w μc hw) ?_|(refine KV (b:=by((with_reducible apply NX);(iterate 3 exact rfl))) (c:=?_))|refine KZ ?_)
 have i:bAt (Utf8.encode r) (n+1)=x.toNat:=by
  have d:n+1< (Utf8.encode r).size:=by omega
  unfold bAt;have:(Utf8.encode r).data.toList[n+1]? =some x:=by rw[←o d];exact Lib.data_getElem? _ _ d
  rw[this];rfl
 have j:bAt nlS 1=13:=rfl;have h:∀c:Int,Lib.indexByte (bl (nlS.extract 2 nlS.size)) c.toNat.toUInt8= -1:=fun c=>rfl;refine dH (ι:=Unit) (fun _=>True) (fun _=>0) (fun _=>μ) (fun _=>[(0,.string nlS),(7,.string (Utf8.encode r)),(8,.int .i64 (((Utf8.encode r).size:Int)-1)),(9,.int .i64 (((Utf8.encode r).size:Int)-1))]) (fun _=>[]) () trivial (fun a w hs=>hs.sub PU (by repeat exact aH _)) ?_;rintro⟨⟩-;rcases gK n with rfl|u
 ·have p:¬bAt nlS 1=bAt (Utf8.encode r) 1:=by rw[j,i];omega
  try repeat' (first|(with_reducible (apply MN))|refine KZ ?_)
  refine aW 7 (_) (by kernel_rfl) rfl (by exact aH _) ?_;all_goals(refine DD 0 ?_;refine DD 1 ?_;refine D2 2 rfl (by exact U2 1) ?_;refine DD 3 ?_;refine DD 4 ?_;refine D2 5 rfl (by exact U2 1) ?_;refine D1 6 ?_;refine D8 ?_)
  try repeat' (refine KZ ?_)
  refine aW 9 (_) (by kernel_rfl) rfl (by exact aH _) ?_;all_goals(refine DD 0 ?_;refine DD 1 ?_;refine DD 2 ?_;refine D2 3 rfl (by((with_reducible apply dR 2);(iterate 3 exact rfl);omega;omega)) ?_;refine DD 4 ?_;refine DD 5 ?_;refine D2 6 rfl (by exact U2 1) ?_)
  all_goals(refine D3 7 ?_;refine D5 ?_;(with_reducible apply C1);exact rfl;exact EN;exact fun w μc hw g=>GJ _ _ (h _) w μc hw;refine D9 ?_)
  all_goals(refine DD 8 ?_;refine D8 ?_)
  try repeat' (first|(with_reducible (apply BD))|refine KZ ?_)
  exact bL rfl rfl rfl
 ·try repeat' (first|(with_reducible (apply BD))|refine KZ ?_)
  exact bL rfl rfl rfl
theorem aBb(r:Int)(w:World)(h1:128≤r)(h2:Utf8.valid r=true):
 aO 135 #[.string nlS,.int .i32 r] w (.int .i64 (-1)):=by
 by_cases h3:r=65533
 ·subst h3;exact KY Tryz.lays152 w
 ·exact OH w (fun _=>none) (fun _ _ h=>by cases h) r h1 h2 h3
theorem GK(s:ByteArray)(hs:s.size<4294967281)(w:World):
 aO 117 #[.string s,.string nlS] w (.int .i64 (Lib.indexAny (bl s) [10,13])):=by
 by_cases h8:s.size≤8
 ·exact JM Tryz.lays153 s nlS w (by decide) h8 (by decide) (fun r w h1 h2=>aBb r w h1 h2)
 ·have h:=zero_of_info (P:=Tryz.prog) (t:=Tryz.lays153_ren.t 116) (v:=.agg (Array.replicate 256 (.bool false))) (n:=256) (by kernel_rfl);refine(Any.strings_IndexAny_long Tryz.lays153 h.1 h.2 s nlS w (by decide) (by omega) hs (by decide) ?_).mono fun e w' ⟨h1,h2⟩=>⟨h1,?_⟩
  ·intro j b hb;have hm:b∈nlS.data.toList:=aZ hb;have ha:∀x∈nlS.data.toList,x.toNat<128:=by decide
   exact ha b hm
  ·rw[h2];exact((Below.refl _ _).alloc (aP _) _).alloc (by simp) _
theorem AH(s:ByteArray)(hs:s.size<4294967281)(w:World)(μ:Mem)(hμ:MOk μ w):
 aO 94 #[.string s,.string nlS] w (.bool ((bl s).any (on8 rP))):=by
 refine aQ Tryz.func94 rfl Tryz.ntmps94 (by simp) hμ ?_;try repeat' (first|refine KO ?_|((with_reducible apply C1);exact rfl;exact EN;exact fun w μc hw a=>GK s hs w))
 refine bL rfl rfl ?_;rw[←aC4,←zB]
end
section
open Go.RowKit Go.Vcg
theorem kO{l:List UInt8}{i:Nat}{b:UInt8}(h:l[i]? =some b):l.drop i=b::l.drop (i+1):=by
 obtain⟨hi,rfl⟩:=List.getElem?_eq_some_iff.1 h;exact iJ hi
theorem sI{s:ByteArray}{i:Nat}(h:i<s.size):∃b,(bl s)[i]? =some b∧bAt s i=b.toNat:=by
 have:i< (bl s).length:=by rw[dU];exact h
 exact⟨(bl s)[i],aI this,JZ (aI this)⟩
theorem oA{s:ByteArray}{i:Nat}(h:s.size≤i):(bl s).drop i=[]:=cJ (by rw[dU];omega)
theorem aDx(s:ByteArray)(k:Nat):bl (s.extract k s.size)=(bl s).drop k:=by
 rw[oU];exact dL (by rw[bC,dU];omega)
theorem QR(s:ByteArray)(k m:Nat):bl (s.extract k m)=((bl s).drop k).take (m-k):=oU s k m
abbrev tE{α:Type}(k:Nat)(x:Nat×α):Nat×α:=(k+x.1,x.2)
theorem AB:∀{k:Nat} {ln:Bool} {xs:List UInt8},k≤xs.length→jA k ln xs=tE k (jA 0 ln (xs.drop k))
 |0,ln,xs,_=>by simp[tE]
 |k+1,ln,[],h=>by simp at h
 | k+1,ln,b::r,h=>by rw[jA,AB (k:=k) (by simpa using h)];simp[tE,pR];omega
theorem SW:∀(xs:List UInt8) (ln:Bool),jA 0 ln xs=tE (fN wsI xs) (jA 0 (ln||(xs.take (fN wsI xs)).any (on8 rP)) (xs.drop (fN wsI xs)))
 |[],ln=>by simp[tE,fN,jA]
 | b::r,ln=>by
   by_cases hb:on8 wsI b
   ·rw[jA,if_pos hb,SW r];simp only[fN,if_pos hb,dM,iL,iC,Bool.or_assoc];simp[tE,pR];omega
   ·have:fN wsI (b::r)=0:=by unfold fN;rw[if_neg hb]
    rw[this];simp[tE]
theorem EJ(p:Int→Bool):∀(xs:List UInt8) (b:UInt8) (r:List UInt8),xs.drop (fN p xs)=b::r→on8 p b=false
 |[],b,r,h=>by simp[fN]at h
 | c::t,b,r,h=>by
   unfold fN at h;by_cases hc:on8 p c
   ·rw[if_pos hc]at h;exact EJ p t b r (by simpa using h)
   ·rw[if_neg hc]at h;simp only[kK,List.cons.injEq]at h;rw[←h.1];simpa using hc
theorem VQ{xs r:List UInt8}{ln:Bool}(h:xs=47::47::r):jA 0 ln xs=tE (fN yU xs) (jA 0 ln (xs.drop (fN yU xs))):=by
 subst h;rw[jA,if_neg (by decide),if_pos (by simp),AB (rF _ _)];have:fN yU (47::47::r)=fN yU (47::r)+1:=by rw[fN,if_pos (by decide)]
 rw[this];simp[tE,pR];omega
theorem VP{xs r:List UInt8}{ln:Bool}(h:xs=47::42::r)(hk:Lib.index r [42,47]<0):jA 0 ln xs=(0,ln,false):=by
 subst h;rw[jA,if_neg (by decide),if_neg (by simp),if_pos (by simp),if_pos (by simpa using hk)]
theorem PR{xs r:List UInt8}{ln:Bool}{k:Nat}(h:xs=47::42::r)(hk:Lib.index r [42,47]=k)(hl:k+4≤xs.length):jA 0 ln xs=tE (k+4) (jA 0 (ln||(xs.take (2+k)).any (on8 rP)) (xs.drop (k+4))):=by
 subst h;rw[jA,if_neg (by decide),if_neg (by simp),if_pos (by simp),if_neg (by simp[hk])];simp only[iL,kK,hk,fG];rw[AB (by simp at hl⊢;omega)];have e:(47::42::r).take (2+k)=47::42::r.take k:=by rw[lL];rfl
 rw[e];simp only[iC,show on8 rP 47=false by decide,show on8 rP 42=false by decide,Bool.false_or];simp[tE,pR];omega
theorem VR{xs:List UInt8}{ln:Bool}(a:∀b r,xs=b::r→on8 wsI b=false)(h1:xs.take 2≠[47,47])(h2:xs.take 2≠[47,42]):jA 0 ln xs=(0,ln,true):=by
 cases xs with
 |nil=>simp[jA]
 | cons b r=>
   have n1:¬(b=47∧r.head? =some 47):=by
    rintro⟨rfl,hr⟩;cases r with
    |nil=>simp at hr
    |cons c t=>simp at hr;subst hr;exact h1 rfl
   have n2:¬(b=47∧r.head? =some 42):=by
    rintro⟨rfl,hr⟩;cases r with
    |nil=>simp at hr
    |cons c t=>simp at hr;subst hr;exact h2 rfl
   rw[jA,if_neg (by rw[a b r rfl];simp),if_neg n1,if_neg n2]
theorem aDa{xs:List UInt8}{c d:UInt8}(h:xs.take 2=[c,d]):∃r,xs=c::d::r:=by
 match xs,h with
 |a::b::r,h=>simp at h;exact⟨r,by rw[h.1,h.2]⟩
def lE(μ:Mem):Prop:=∃m,oM μ ⟨Tryz.lays143_ren.g 1,0,none⟩ (.int .i64 m)
theorem lE.mono{μ μ' :Mem}(h:lE μ)(k:MLe μ μ'):lE μ' :=by
 obtain⟨m,c,t,f,h1,h2,h3⟩:=h;exact⟨m,c,t,f,k _ _ h1,h2,h3⟩
theorem lE.at{μ:Mem}{w:World}(h:lE μ)(hμ:MOk μ w):∃m,w.cell? ⟨Tryz.lays143_ren.g 1,0,none⟩=some (.int .i64 m):=by
 obtain⟨m,c,t,f,h1,h2,h3⟩:=h;exact⟨m,by simp only[World.cell?,hμ _ _ h1];exact h3⟩
attribute [local irreducible] G GC GQ GA dV Calls IntKind.wrap Int.decLt Int.decLe
theorem MG(s sub:ByteArray)(hs:s.size<4294967281)(w:World)(μ:Mem)(hμ:MOk μ w)(a:lE μ):
 aO 97 #[.string s,.string sub] w (.int .i64 (Lib.index (bl s) (bl sub))):=by
 obtain⟨m,hm⟩:=a.at hμ;exact(Any.strings_Index Tryz.lays143 s sub m w hs hm).mono fun e w' ⟨h1,h2⟩=>⟨h1,h2▸Below.refl _ _⟩
theorem FF(s sub:ByteArray)(hs:s.size<4294967281)(w:World)(μ:Mem)(hμ:MOk μ w)(a:lE μ):
 aO 121 #[.string s,.string sub] w (.bool (Lib.contains (bl s) (bl sub))):=by
 obtain⟨m,hm⟩:=a.at hμ;exact(Any.strings_Contains Tryz.lays144 s sub m w hs hm).mono fun e w' ⟨h1,h2⟩=>⟨h1,h2▸Below.refl _ _⟩
theorem sZ(s:ByteArray)(k:Nat)(p:ByteArray)(hs:s.size≤65536)(hp:p.size≤100){c:Bool}(h:decide (((bl s).drop k).take p.size=bl p)=c)(w:World)(μ:Mem)(hμ:MOk μ w):
 aO 95 #[.string (s.extract k s.size),.string p] w (.bool c):=by
 have:=EK (s.extract k s.size) p (by rw[cK];omega) (by omega) w μ hμ;rw[aDx,h]at this;exact this
def FnB(f:FuncId)(p:Int→Bool):Prop:=∀(w:World) (μ:Mem) (c:Int),MOk μ w→0≤c→c≤255→aO f #[.int .u8 c] w (.bool (p c))
theorem BC:FnB 98 zZ:=by
 intro w μ c hμ a h1;refine aQ Tryz.func98 rfl Tryz.ntmps98 (by simp) hμ ?_;try repeat' (first|refine KZ ?_|(refine KB ?_ ?_<;>intro hp))
 all_goals refine bL rfl rfl ?_
 all_goals unfold zZ
 all_goals first|(simp_all;done)|(simp_all;omega)
theorem EH:FnB 100 mV:=by
 intro w μ c hμ a h1;refine aQ Tryz.func100 rfl Tryz.ntmps100 (by simp) hμ ?_;try repeat' (first|refine KZ ?_|(refine KB ?_ ?_<;>intro hp))
 all_goals refine bL rfl rfl ?_
 all_goals unfold mV
 all_goals first|(simp_all;done)|(simp_all;omega)
theorem EG:FnB 93 rP:=by
 intro w μ c hμ a h1;refine aQ Tryz.func93 rfl Tryz.ntmps93 (by simp) hμ ?_;try repeat' (first|refine KZ ?_|(refine KB ?_ ?_<;>intro hp))
 all_goals refine bL rfl rfl ?_
 all_goals unfold rP
 all_goals(simp_all;done)
theorem aCc:FnB 92 wsI:=by
 intro w μ c hμ b h1;refine aQ Tryz.func92 rfl Tryz.ntmps92 (by simp) hμ ?_;try repeat' (first|refine KZ ?_|((with_reducible apply C1);exact rfl;exact EN;exact fun w μc hw a=>EG w μc c hw b h1)|(refine KB ?_ ?_<;>intro hp))
 all_goals refine bL rfl rfl ?_
 all_goals unfold wsI
 all_goals(simp_all;done)
theorem aCb:FnB 96 yU:=by
 intro w μ c hμ b h1;refine aQ Tryz.func96 rfl Tryz.ntmps96 (by simp) hμ ?_;try repeat' (first|refine KO ?_|((with_reducible apply C1);exact rfl;exact EN;exact fun w μc hw a=>EG w μc c hw b h1))
 all_goals exact bL rfl rfl rfl
theorem YM:FnB 120 idI:=by
 intro w μ c hμ b h1;refine aQ Tryz.func120 rfl Tryz.ntmps120 (by simp) hμ ?_;try repeat' (first|refine KO ?_|refine K2 98 (fun w μc hw a=>BC w μc c hw b h1) ?_|refine K2 100 (fun w μc hw a=>EH w μc c hw b h1) ?_|refine KZ ?_|(refine KB ?_ ?_<;>intro hp))
 all_goals refine bL rfl rfl ?_
 all_goals unfold idI
 all_goals simp_all
theorem JN(c:Int): -1≤lH c:=by
 unfold lH;repeat' split
 all_goals omega
theorem JO(c:Int):lH c≤15:=by
 unfold lH;repeat' split
 all_goals omega
theorem eZ(c:Int){v:Bool}(h:mV c=v)(a:0≤c)(h1:c≤255)(w:World)(μ:Mem)(hμ:MOk μ w):aO 100 #[.int .u8 c] w (.bool v):=by
 have:=EH w μ c hμ a h1;rwa[h]at this
theorem lD(c:Int){v:Bool}(h:zZ c=v)(a:0≤c)(h1:c≤255)(w:World)(μ:Mem)(hμ:MOk μ w):aO 98 #[.int .u8 c] w (.bool v):=by
 have:=BC w μ c hμ a h1;rwa[h]at this
theorem yZ(c:Int){v:Bool}(h:rP c=v)(a:0≤c)(h1:c≤255)(w:World)(μ:Mem)(hμ:MOk μ w):aO 93 #[.int .u8 c] w (.bool v):=by
 have:=EG w μ c hμ a h1;rwa[h]at this
theorem rE(c:Int)(d:0≤c)(h1:c≤255)(w:World)(μ:Mem)(hμ:MOk μ w):
 aO 143 #[.int .u8 c] w (.int .i64 (lH c)):=by
 refine aQ Tryz.func143 rfl Tryz.ntmps143 (by simp) hμ ?_;by_cases hd:48≤c∧c≤57
 ·have a:mV c=true:=by simp[mV];exact hd
  try repeat' (first|refine KZ ?_|((with_reducible apply C1);exact rfl;exact EN;exact fun w μc hw b=>eZ c a d h1 w μc hw))
  all_goals refine bL rfl rfl ?_
  all_goals(unfold lH;rw[if_pos hd])
 ·have a:mV c=false:=by simp[mV];omega
  try repeat' (first|refine KZ ?_|((with_reducible apply C1);exact rfl;exact EN;exact fun w μc hw b=>eZ c a d h1 w μc hw)|(refine KB ?_ ?_<;>intro hp))
  all_goals refine bL rfl rfl ?_
  all_goals congr 1
  all_goals unfold lH
  all_goals(repeat' split)<;>omega
theorem zV(f:FuncId)(p:Int→Bool)(hc:hG Tryz.prog f=true)(hf:FnB f p)(s:ByteArray)(hs:s.size≤65536)(k:Nat)(hk:k≤s.size)(w:World)(μ:Mem)(hμ:MOk μ w):
 aO 91 #[.string s,.int .i64 k,.func (.func f) #[] #[]] w (.int .i64 ((k+fN p ((bl s).drop k):Nat):Int)):=by
 refine aQ Tryz.func91 rfl Tryz.ntmps91 (by simp) hμ ?_;try repeat' (refine KZ ?_)
 refine dH (ι:=Nat) (fun i=>i≤s.size∧k+fN p ((bl s).drop k)=i+fN p ((bl s).drop i)) (fun i=>s.size-i) (fun _=>μ) (fun i=>[(1,.int .i64 i),(0,.string s),(2,.func (.func f) #[] #[])]) (fun _=>[]) k ⟨hk,rfl⟩ (fun a w hs=>hs.sub PU (by repeat exact aH _)) ?_;rintro i ⟨hi,hJ⟩;by_cases c:i<s.size
 ·obtain⟨b,g,d⟩:=sI c;have h1:=fQ s i;have h2:=fR s i;rw[kO g,fN]at hJ;have e:on8 p b=p (bAt s i):=by rw[d]
  rw[e]at hJ;try repeat' (first|refine KZ ?_|((with_reducible apply C1);exact rfl;exact EN;exact fun w μc hw h=>hf w μc _ hw h1 h2)|(refine KB ?_ ?_<;>intro hp))
  ·rw[if_pos hp]at hJ;refine gG (i+1) ⟨by omega,?_⟩ (by omega) rfl PU (by repeat exact aH _);omega
  ·refine bL rfl rfl ?_;rw[hJ,hp];simp
 ·rw[oA (i:=i) (by omega),fN]at hJ;try repeat' (refine KZ ?_)
  exact bL rfl rfl (by rw[hJ];simp)
end
section
open Go.RowKit Go.Vcg
def ZL(g:Nat×Bool×Bool):Int:=if g.2.2 then 0 else 8
theorem wA(s:ByteArray)(hs:s.size<4294967281){c:Bool}(h:(bl s).any (on8 rP)=c)(w:World)(μ:Mem)(hμ:MOk μ w):
 aO 94 #[.string s,.string ⟨#[10,13]⟩] w (.bool c):=by
 have:=AH s hs w μ hμ;rw[h]at this;exact this
theorem ZC(s sub:ByteArray)(hs:s.size<4294967281){k:Int}(h:Lib.index (bl s) (bl sub)=k)(w:World)(μ:Mem)(hμ:MOk μ w)(a:lE μ):
 aO 97 #[.string s,.string sub] w (.int .i64 k):=by
 have:=MG s sub hs w μ hμ a;rwa[h]at this
theorem qQ{α:Type}(a b:Nat)(x:Nat×α):tE a (tE b x)=tE (a+b) x:=by simp[tE,kP]
attribute [local irreducible] G GC GQ GA dV Calls IntKind.wrap Int.decLt Int.decLe
theorem ZK(s:ByteArray)(hs:s.size≤65536)(k:Nat)(hk:k≤s.size)(w:World)(μ:Mem)(hμ:MOk μ w)(hM:lE μ):
 aO 63 #[.string s,.int .i64 k] w (.tuple #[.int .i64 ((k+ (jA 0 false ((bl s).drop k)).1:Nat):Int),.bool (jA 0 false ((bl s).drop k)).2.1,.int .i64 (ZL (jA 0 false ((bl s).drop k)))]):=by
 refine aQ Tryz.func63 rfl Tryz.ntmps63 (by simp) hμ ?_;try repeat' (refine KZ ?_)
 refine dH (ι:=Nat×Bool) (fun i=>k≤i.1∧i.1≤s.size∧jA 0 false ((bl s).drop k)=tE (i.1-k) (jA 0 i.2 ((bl s).drop i.1))) (fun i=>s.size-i.1) (fun _=>μ) (fun i=>[(1,.int .i64 i.1),(0,.string s),(5,.bool i.2)]) (fun _=>[]) (k,false) ⟨by simp,hk,by simp[tE]⟩ (fun a w hs=>hs.sub PU (by repeat exact aH _)) ?_;rintro⟨i,ln⟩ ⟨an,hi,hJ⟩;dsimp only at an hi hJ⊢;generalize x:(bl s).drop i=xs at hJ;have hlen:xs.length=s.size-i:=by rw[←x,bC,dU]
 generalize hm:fN wsI xs=m;have aw:m≤xs.length:=hm▸rF _ _;generalize l:(bl s).drop (i+m)=ys;have ae:xs.drop m=ys:=by rw[←x,cF,l]
 have aj:ys.length=s.size- (i+m):=by rw[←l,bC,dU]
 have ak:∀b r,ys=b::r→on8 wsI b=false:=fun b r h=>EJ wsI xs b r (by rw[hm,ae,h]);rw[SW xs ln,hm,ae]at hJ;generalize ag:(ln||(xs.take m).any (on8 rP))=ln1 at hJ;have ao:ln=false→(bl (s.extract i (i+m))).any (on8 rP)=ln1:=fun h=>by rw[QR,x,show i+m-i=m by omega,←ag,h];simp
 have j:=zV 92 wsI (by kernel_rfl) aCc s hs i hi;rw[x,hm]at j;have u:=fun w μ hμ=>sZ s (i+m) ⟨#[47,47]⟩ hs (by decide) (c:=decide (ys.take 2=[47,47])) (by rw[l];rfl) w μ hμ;have z:=fun w μ hμ=>sZ s (i+m) ⟨#[47,42]⟩ hs (by decide) (c:=decide (ys.take 2=[47,42])) (by rw[l];rfl) w μ hμ;have g:ln=false→∀(w:World) (μ:Mem),MOk μ w→aO 94 #[.string (s.extract i (i+m)),.string ⟨#[10,13]⟩] w (.bool ln1):=
  fun h w μ hμ=>wA _ (by rw[cK];omega) (ao h) w μ hμ
 have y:ln=true→ln1=true:=fun h=>by rw[←ag,h];rfl
 by_cases h1:ys.take 2=[47,47]
 ·simp only[decide_eq_true h1]at u;obtain⟨r,hr⟩:=aDa h1;rw[VQ hr]at hJ;generalize hn:fN yU ys=n at hJ;have av:n≤ys.length:=hn▸rF _ _;have au:0<n:=by rw[←hn,hr,fN,if_pos (by rfl)];omega
  have ad:=zV 96 yU (by kernel_rfl) aCb s hs (i+m) (by omega);rw[l,hn]at ad;have ab:ys.drop n=(bl s).drop (i+m+n):=by rw[←l,cF]
  rw[ab,qQ,qQ]at hJ;cases ln with
  | true=>
    have:=y rfl;subst this;clear g;have g:True:=trivial;try repeat' (first|refine KO ?_|((with_reducible apply F1 91);exact rfl;exact EN;first|exact fun w μc hw d=>j w μc hw|exact fun w μc hw d=>ad w μc hw)|refine K2 95 (fun w μc hw d=>u w μc hw) ?_|(refine KV (b:=by((with_reducible apply dR (i+m));(iterate 4 exact rfl);omega)) (c:=?_)))
    refine gG (i+m+n,true) ⟨by dsimp only;omega,by dsimp only;omega,?_⟩ (by dsimp only;omega) rfl PU (by repeat exact aH _);rw[hJ,show i-k+m+n=i+m+n-k by omega]
  | false=>
    replace g:=g rfl;try repeat' (first|refine KO ?_|((with_reducible apply F1 91);exact rfl;exact EN;first|exact fun w μc hw d=>j w μc hw|exact fun w μc hw d=>ad w μc hw)|refine K2 94 (fun w μc hw d=>g w μc hw) ?_|refine K2 95 (fun w μc hw d=>u w μc hw) ?_|(refine KV (b:=by first|((with_reducible apply cA i (i+m));(iterate 6 exact rfl);omega;omega)|((with_reducible apply dR (i+m));(iterate 4 exact rfl);omega)) (c:=?_)))
    refine gG (i+m+n,ln1) ⟨by dsimp only;omega,by dsimp only;omega,?_⟩ (by dsimp only;omega) rfl PU (by repeat exact aH _);rw[hJ,show i-k+m+n=i+m+n-k by omega]
 ·simp only[decide_eq_false h1]at u;by_cases h2:ys.take 2=[47,42]
  ·simp only[decide_eq_true h2]at z;obtain⟨r,hr⟩:=aDa h2;have ap:bl (s.extract (i+m+2) s.size)=r:=by rw[aDx,←cF,l,hr];rfl
   have aq:i+m+2≤s.size:=by have:=congrArg List.length hr;simp only[aF]at this;omega
   have hI:=fun w μ hμ hM=>ZC (s.extract (i+m+2) s.size) ⟨#[42,47]⟩ (by rw[cK];omega) (k:=Lib.index r [42,47]) (by rw[ap]) w μ hμ hM;by_cases af:Lib.index r [42,47]<0
   ·rw[VP hr af,qQ]at hJ;have o:∀(v:Value),v=.tuple #[.int .i64 ((i+m:Nat):Int),.bool ln1,.int .i64 8]→v=.tuple #[.int .i64 ((k+ (jA 0 false ((bl s).drop k)).1:Nat):Int),.bool (jA 0 false ((bl s).drop k)).2.1,.int .i64 (ZL (jA 0 false ((bl s).drop k)))]:=fun v hv=>by rw[hv,hJ];simp only[tE,ZL,cM,cB,if_false];rw[show k+ (i-k+m)=i+m by omega]
    cases ln with
    | true=>
      have:=y rfl;subst this;clear g;have g:True:=trivial;try repeat' (first|refine KO ?_|refine K2 91 (fun w μc hw d=>j w μc hw) ?_|((with_reducible apply F1 95);exact rfl;exact EN;first|exact fun w μc hw d=>u w μc hw|exact fun w μc hw d=>z w μc hw)|refine K2 97 (fun w μc hw d=>hI w μc hw (hM.mono d)) ?_|(refine KV (b:=by first|((with_reducible apply dR (i+m));(iterate 4 exact rfl);omega)|((with_reducible apply dR (i+m+2));(iterate 3 exact rfl);(exact rfl);omega)) (c:=?_))|refine KZ ?_)
      exact nH rfl (by repeat first|exact jW|refine eN (by exact aN rfl) ?_) rfl (o _ rfl)
    | false=>
      replace g:=g rfl;try repeat' (first|refine KO ?_|refine K2 91 (fun w μc hw d=>j w μc hw) ?_|refine K2 94 (fun w μc hw d=>g w μc hw) ?_|((with_reducible apply F1 95);exact rfl;exact EN;first|exact fun w μc hw d=>u w μc hw|exact fun w μc hw d=>z w μc hw)|refine K2 97 (fun w μc hw d=>hI w μc hw (hM.mono d)) ?_|(refine KV (b:=by first|((with_reducible apply cA i (i+m));(iterate 6 exact rfl);omega;omega)|((with_reducible apply dR (i+m));(iterate 4 exact rfl);omega)|((with_reducible apply dR (i+m+2));(iterate 3 exact rfl);(exact rfl);omega)) (c:=?_))|refine KZ ?_)
      exact nH rfl (by repeat first|exact jW|refine eN (by exact aN rfl) ?_) rfl (o _ rfl)
   ·obtain⟨kk,ai⟩:∃kk:Nat,Lib.index r [42,47]=kk:=⟨(Lib.index r [42,47]).toNat,by omega⟩;have q:=Lib.index_room r [42,47] (by omega);rw[ai]at hI q;have ar:ys.length=r.length+2:=by rw[hr];rfl
    have al:kk+4≤ys.length:=by simp at q;omega
    rw[PR hr ai al]at hJ;generalize aa:(ln1||(ys.take (2+kk)).any (on8 rP))=ln2 at hJ;have ab:ys.drop (kk+4)=(bl s).drop (i+m+ (kk+4)):=by rw[←l,cF]
    rw[ab,qQ,qQ]at hJ;have p:ln1=false→∀(w:World) (μ:Mem),MOk μ w→aO 94 #[.string (s.extract (i+m) (i+m+2+kk)),.string ⟨#[10,13]⟩] w (.bool ln2):=fun h w μ hμ=>by refine wA _ (by rw[cK];omega) ?_ w μ hμ;rw[QR,l,show i+m+2+kk- (i+m)=2+kk by omega,←aa,h];simp
    have ah:ln1=true→ln2=true:=fun h=>by rw[←aa,h];rfl
    have fin:∀(v:Nat×Bool),v=(i+m+ (kk+4),ln2)→k≤v.1∧v.1≤s.size∧jA 0 false ((bl s).drop k)=tE (v.1-k) (jA 0 v.2 ((bl s).drop v.1)):=fun v hv=>by subst hv;refine⟨by dsimp only;omega,by dsimp only;omega,?_⟩;rw[hJ,show i-k+m+ (kk+4)=i+m+ (kk+4)-k by omega]
    cases ln with
    | true=>
      have:=y rfl;subst this;have:=ah rfl;subst this;clear g p;have g:True:=trivial;have p:True:=trivial;try repeat' (first|refine KO ?_|refine K2 91 (fun w μc hw d=>j w μc hw) ?_|((with_reducible apply F1 95);exact rfl;exact EN;first|exact fun w μc hw d=>u w μc hw|exact fun w μc hw d=>z w μc hw)|refine K2 97 (fun w μc hw d=>hI w μc hw (hM.mono d)) ?_|(refine KV (b:=by first|((with_reducible apply dR (i+m));(iterate 4 exact rfl);omega)|((with_reducible apply dR (i+m+2));(iterate 3 exact rfl);(exact rfl);omega)) (c:=?_))|refine KZ ?_)
      exact gG (i+m+ (kk+4),true) (fin _ rfl) (by dsimp only;omega) rfl PU (by repeat exact aH _)
    | false=>
      replace g:=g rfl;cases ln1 with
      | true=>
        have:=ah rfl;subst this;clear p;have p:True:=trivial;try repeat' (first|refine KO ?_|refine K2 91 (fun w μc hw d=>j w μc hw) ?_|refine K2 94 (fun w μc hw d=>g w μc hw) ?_|((with_reducible apply F1 95);exact rfl;exact EN;first|exact fun w μc hw d=>u w μc hw|exact fun w μc hw d=>z w μc hw)|refine K2 97 (fun w μc hw d=>hI w μc hw (hM.mono d)) ?_|(refine KV (b:=by first|((with_reducible apply cA i (i+m));(iterate 6 exact rfl);omega;omega)|((with_reducible apply dR (i+m));(iterate 4 exact rfl);omega)|((with_reducible apply dR (i+m+2));(iterate 3 exact rfl);(exact rfl);omega)) (c:=?_))|refine KZ ?_)
        exact gG (i+m+ (kk+4),true) (fin _ rfl) (by dsimp only;omega) rfl PU (by repeat exact aH _)
      | false=>
        replace p:=p rfl;try repeat' (first|refine KO ?_|refine K2 91 (fun w μc hw d=>j w μc hw) ?_|((with_reducible apply F1 94);exact rfl;exact EN;first|exact fun w μc hw d=>g w μc hw|exact fun w μc hw d=>p w μc hw)|((with_reducible apply F1 95);exact rfl;exact EN;first|exact fun w μc hw d=>u w μc hw|exact fun w μc hw d=>z w μc hw)|refine K2 97 (fun w μc hw d=>hI w μc hw (hM.mono d)) ?_|(refine KV (b:=by first|((with_reducible apply cA i (i+m));(iterate 6 exact rfl);omega;omega)|((with_reducible apply dR (i+m));(iterate 4 exact rfl);omega)|((with_reducible apply dR (i+m+2));(iterate 3 exact rfl);(exact rfl);omega)|((with_reducible apply cA (i+m) (i+m+2+kk));(iterate 5 exact rfl);(exact rfl);omega;omega)) (c:=?_))|refine KZ ?_)
        exact gG (i+m+ (kk+4),ln2) (fin _ rfl) (by dsimp only;omega) rfl PU (by repeat exact aH _)
  ·simp only[decide_eq_false h2]at z;rw[VR ak h1 h2,qQ]at hJ;have o:∀(v:Value),v=.tuple #[.int .i64 ((i+m:Nat):Int),.bool ln1,.int .i64 0]→v=.tuple #[.int .i64 ((k+ (jA 0 false ((bl s).drop k)).1:Nat):Int),.bool (jA 0 false ((bl s).drop k)).2.1,.int .i64 (ZL (jA 0 false ((bl s).drop k)))]:=fun v hv=>by rw[hv,hJ];simp only[tE,ZL,cM,if_true];rw[show k+ (i-k+m)=i+m by omega]
   cases ln with
   | true=>
     have:=y rfl;subst this;clear g;have g:True:=trivial;try repeat' (first|refine KO ?_|refine K2 91 (fun w μc hw d=>j w μc hw) ?_|((with_reducible apply F1 95);exact rfl;exact EN;first|exact fun w μc hw d=>u w μc hw|exact fun w μc hw d=>z w μc hw)|(refine KV (b:=by((with_reducible apply dR (i+m));(iterate 4 exact rfl);omega)) (c:=?_)))
     exact nH rfl (by repeat first|exact jW|refine eN (by exact aN rfl) ?_) rfl (o _ rfl)
   | false=>
     replace g:=g rfl;try repeat' (first|refine KO ?_|refine K2 91 (fun w μc hw d=>j w μc hw) ?_|refine K2 94 (fun w μc hw d=>g w μc hw) ?_|((with_reducible apply F1 95);exact rfl;exact EN;first|exact fun w μc hw d=>u w μc hw|exact fun w μc hw d=>z w μc hw)|(refine KV (b:=by first|((with_reducible apply cA i (i+m));(iterate 6 exact rfl);omega;omega)|((with_reducible apply dR (i+m));(iterate 4 exact rfl);omega)) (c:=?_)))
     exact nH rfl (by repeat first|exact jW|refine eN (by exact aN rfl) ?_) rfl (o _ rfl)
end
end Go.Proofs.YtknieidhopbngaaGreat
namespace Go.Vcg
section
open Go.RowKit
section
variable{P:Program}{X:Ctx}{ops:Array Oper}{Q:Exit→Act→World→Prop}{rest:List Oper}{μ:Mem}{l:bG}{L:List Bk}{a:Act}{w:World}{o:Oper}{d:Nat}
variable{ty:TypeId}{pos:String}{af:Array Edge}{gd:Option (Nat×Bool)}{ds:Option Nat}
theorem aCi{t e:TypeId}{z:Value}{bytes:Nat}{p q:Operand}{x y:Int}(N:Nat)(xs:List Value)(hn:Nat.blt d X.n=true)(hw:dW ops l ⟨some d,.makeSlice t p q,ty,pos,af,gd⟩=some true)
 (hp:ev l p=some (.int .i64 x))(v:ev l q=some (.int .i64 y))(u:x=(N:Int))(r:y=(N:Int))(ht:P.underlying t=some (.slice e))(g:(P.info? e).map (fun i=>(i.zero,i.size,i.bytes))=some (some z,1,bytes))(o:z.cells= #[z])
 (c:bytes*N≤281474976710656)(k:N≤9223372036854775807)(j:xs=List.replicate N z)
 (h:∀b,G P X ops Q rest μ ((d,.slice (some ⟨b,0,none⟩) N N)::l) (.inr ⟨.slice (some ⟨b,0,none⟩) N N,e,1,N,xs⟩::L)):G P X ops Q (⟨some d,.makeSlice t p q,ty,pos,af,gd⟩::rest) μ l L:=
 BU hw fun a w hs=>by
  have e1:=hs.eval hp;have e2:=hs.eval v;have e0:(execOp a.eval ⟨some d,.makeSlice t p q,ty,pos,af,gd⟩).run P w=.ok (.value (.slice (some ⟨w.heap.size,0,none⟩) N N)) (w.alloc (.cells (madeCells #[z] N) e)):=by generalize a.eval=ρ at e1 e2;subst u r;simp[execOp,e1,e2,run_make_row' t e z bytes ht g o .i64 .i64 N c k w]
  unfold Oper.wp;rw[e0,Oper.upon_value];have hl:xs.length=N:=by rw[j,List.length_replicate]
  refine h _ _ _ ((hs.aHz _ (.inr ⟨.slice (some ⟨w.heap.size,0,none⟩) N N,e,1,N,xs⟩) rfl ?_).put hn _);refine⟨by show xs.length=N*1;omega,.inr ⟨w.heap.size,N,madeCells #[z] N,rfl,cU _,heap_alloc_new w _,aP _,k,?_,?_⟩⟩
  ·rw[size_madeCells];exact(jF N).symm
  ·rw[toList_madeCells_one,j,jF];exact dL (by simp)
end
end
section
open Go.RowKit
section
variable{P:Program}{μ:Mem}{l:bG}{L:List Bk}
variable{ty:TypeId}{pos:String}{af:Array Edge}{gd:Option (Nat×Bool)}{ds:Option Nat}
abbrev byteCells(bs:List UInt8):List Value:=bs.map fun b=>.int .u8 (b.toNat:Int)
theorem pC{p:Operand}{t u e e' :TypeId}{v:Value}{n:Nat}{xs:List Value}(bs:List UInt8)(i:Nat)(k:ev l p=some v)(hi:jO L i=some (.inr ⟨v,e',1,n,xs⟩))
 (ht:P.underlying t=some (.slice e))(he:P.underlying e=some (.int .u8))(hu:P.underlying u=some .string)(hn:bs.length=n)(hb:xs=byteCells bs):
 Val P μ l L ⟨ds,.convert t u p,ty,pos,af,gd⟩ (.string ⟨bs.toArray⟩):=fun a w hs=>by
 have e0:=hs.eval k;have b:w.ownsRow 0 e' 1 v n xs:=hs.own _ (fB hi);subst hn hb;rcases b.2 with⟨hv,h⟩|⟨g,cap,cur,hv,_⟩
 ·have c:bs=[]:=by have:=b.1;exact List.length_eq_zero_iff.1 h
  subst c;subst hv;generalize a.eval=ρ at e0;simp[execOp,e0,convert,run_underlying ht,run_underlying hu,run_underlying he,Conv.bytesToString];rfl
 ·subst hv;have hc:∀j (d:j<bs.length),w.cell? ((⟨g,0,none⟩:Addr).add j)=some (.int .u8 (bs[j].toNat:Int)):=fun j d=>by rw[add_lit,dT];exact hs.IS (fB hi) (by simp[d])
  generalize a.eval=ρ at e0;simp[execOp,e0,run_convert_bytes_back w t u e ⟨g,0,none⟩ cap bs ht he hu hc]
end
end
end Go.Vcg
namespace Go.Proofs.YtknieidhopbngaaGreat
open Go.RowKit Go.Vcg
structure Tok where
 k:Int
 at' :Int
 to:Int
 n:Int
 s:ByteArray
 line:Bool
 op:Bool
abbrev eB(t:Tok):List Value:=[.int .i64 t.k,.int .i64 t.at',.int .i64 t.to,.int .i64 t.n,.string t.s,.bool t.line,.bool t.op]
def ofL(l:List UInt8):ByteArray:=⟨l.toArray⟩
theorem rM(l:List UInt8):bl (ofL l)=l:=by simp[bl,ofL]
theorem CB(s:ByteArray)(k m:Nat):s.extract k (k+m)=ofL (((bl s).drop k).take m):=wF (by rw[QR,rM,Nat.add_sub_cancel_left])
def nC:Tok:=⟨0,0,0,0,⟨#[]⟩,false,false⟩
def BK(k:Nat)(t:T1):Tok:=⟨t.k,k,((k+t.len:Nat):Int),t.n,ofL t.s,false,t.op⟩
def sO(k:Nat)(r:Except Int T1):Tok:=match r with
 |.ok t=>BK k t
 |.error _=>nC
def EY{α:Type}(r:Except Int α):Int:=match r with
 |.ok _=>0
 |.error e=>e
abbrev oN(t:Tok):Value:=.agg (eB t).toArray
theorem tI(x:ByteArray):(⟨#[32]⟩++x:ByteArray).size=x.size+1:=by
 rw[jQ];show 1+x.size=_
 omega
theorem aC2(x:ByteArray):bl ((⟨#[32]⟩++x:ByteArray)++⟨#[32]⟩)=[32]++bl x++[32]:=by
 simp[bl,ByteArray.data_append]
theorem dI(W x:ByteArray)(a:W.size<4294967281){tab:List UInt8}(hw:bl W=tab){c:Bool}(h:Lib.contains tab ([32]++bl x++[32])=c)(w:World)(μ:Mem)(hμ:MOk μ w)(b:lE μ):
 aO 121 #[.string W,.string ((⟨#[32]⟩++x:ByteArray)++⟨#[32]⟩)] w (.bool c):=by
 have:=FF W ((⟨#[32]⟩++x:ByteArray)++⟨#[32]⟩) a w μ hμ b;rwa[aC2,hw,h]at this
attribute [local irreducible] G GC GQ GA dV Calls IntKind.wrap Int.decLt Int.decLe
theorem PH(s:ByteArray)(hs:s.size≤65536)(k:Nat)(hk:k≤s.size)(w:World)(μ:Mem)(hμ:MOk μ w)(o:lE μ):
 aO 99 #[.string s,.int .i64 k] w (oN (BK k ⟨if Lib.contains CW ([32]++((bl s).drop k).take (fN idI ((bl s).drop k))++[32])then 2 else 1,fN idI ((bl s).drop k),0,((bl s).drop k).take (fN idI ((bl s).drop k)),false⟩)):=by
 refine aQ Tryz.func99 rfl Tryz.ntmps99 (by simp) hμ ?_;have d:=zV 120 idI (by kernel_rfl) YM s hs k hk;generalize hm:fN idI ((bl s).drop k)=m at d;have l:m≤s.size-k:=by have:=rF idI ((bl s).drop k);rw[hm,bC,dU]at this;exact this
 have i:=CB s k m;have j:(s.extract k (k+m)).size≤65536:=by rw[cK];omega
 have p:(⟨#[32]⟩:ByteArray).size=1:=rfl;have hw:=tI (s.extract k (k+m));have h:bl (s.extract k (k+m))=((bl s).drop k).take m:=by rw[i,rM]
 cases hc:Lib.contains CW ([32]++((bl s).drop k).take m++[32]);all_goals
  have he:∀q,BK k ⟨q,m,0,((bl s).drop k).take m,false⟩=⟨q,k,((k+m:Nat):Int),0,s.extract k (k+m),false,false⟩:=fun q=>by rw[i];rfl
  rw[he];try repeat' (first|refine KO ?_|refine K2 91 (fun w μc hw a=>d w μc hw) ?_|((with_reducible apply F1 121);exact rfl;exact EN;exact fun w μc g a=>dI _ _ (by decide+kernel) (tab:=CW) (by kernel_rfl) (by rw[h,hc]) w μc g (o.mono a.le))|(refine KV (b:=by first|((with_reducible apply cA k (k+m));(iterate 6 exact rfl);omega;omega)|((with_reducible apply iG);exact rfl;exact rfl;omega)) (c:=?_))|refine KZ ?_|refine NB fun b=>?_)
  exact xS rfl (RG 1 rfl rfl rfl rfl rfl) rfl
def KC(m:Nat)(x:Int×Nat×Bool):Int×Nat×Bool:=(x.1,m+x.2.1,x.2.2)
theorem WH(a b:Nat)(x:Int×Nat×Bool):KC a (KC b x)=KC (a+b) x:=by simp[KC,kP]
theorem JT(base:Int)(b:UInt8)(r:List UInt8)(n:Int)(ok:Bool)(h:¬(lH b.toNat<0∨lH b.toNat≥base)):
 cI base (b::r) n ok=KC 1 (if n*base+lH b.toNat>tV then cI base r 0 false else cI base r (n*base+lH b.toNat) ok):=by
 rw[cI,if_neg h];split<;>simp[KC,lL]
theorem zF(s:ByteArray)(hs:s.size≤65536)(k:Nat)(hk:k≤s.size)(base:Int)(hb:base=10∨base=16)(w:World)(μ:Mem)(hμ:MOk μ w):
 aO 122 #[.string s,.int .i64 k,.int .i64 base] w (.tuple #[.int .i64 (cI base ((bl s).drop k) 0 true).1,.int .i64 ((k+ (cI base ((bl s).drop k) 0 true).2.1:Nat):Int),.bool (cI base ((bl s).drop k) 0 true).2.2]):=by
 refine aQ Tryz.func122 rfl Tryz.ntmps122 (by simp) hμ ?_;try repeat' (refine KZ ?_)
 refine dH (ι:=Nat×Int×Bool) (fun i=>k≤i.1∧i.1≤s.size∧0≤i.2.1∧i.2.1≤9007199254740992∧cI base ((bl s).drop k) 0 true=KC (i.1-k) (cI base ((bl s).drop i.1) i.2.1 i.2.2)) (fun i=>s.size-i.1) (fun _=>μ) (fun i=>[(7,.int .i64 i.1),(0,.string s),(2,.int .i64 base),(6,.int .i64 i.2.1),(8,.bool i.2.2)]) (fun _=>[]) (k,0,true) ⟨by simp,hk,by simp,by simp,by simp[KC]⟩ (fun a w hs=>hs.sub PU (by repeat exact aH _)) ?_;rintro⟨i,n,ok⟩ ⟨u,hi,q,p,hJ⟩;dsimp only at u hi q p hJ⊢;have d:∀(v:Value),cI base ((bl s).drop i) n ok=(n,0,ok)→v=.tuple #[.int .i64 n,.int .i64 i,.bool ok]→v=.tuple #[.int .i64 (cI base ((bl s).drop k) 0 true).1,.int .i64 ((k+ (cI base ((bl s).drop k) 0 true).2.1:Nat):Int),.bool (cI base ((bl s).drop k) 0 true).2.2]:=fun v h hv=>by rw[hv,hJ,h];simp only[KC,cM];rw[show k+ (i-k)=i by omega]
 by_cases r:i<s.size
 ·obtain⟨b,x,j⟩:=sI r;have h1:=fQ s i;have h2:=fR s i;have h3:=JN (bAt s i);have h4:=JO (bAt s i);rw[kO x]at hJ d;by_cases l:lH (bAt s i)<0∨lH (bAt s i)≥base
  ·have hd:cI base (b::(bl s).drop (i+1)) n ok=(n,0,ok):=by rw[cI,if_pos (by rw[←j];exact l)]
   try repeat' (first|refine KZ ?_|((with_reducible apply C1);exact rfl;exact EN;exact fun w μc hw o=>rE _ h1 h2 w μc hw)|(refine KB ?_ ?_<;>intro hp))
   all_goals exact nH rfl (by repeat first|exact jW|refine eN (by exact aN rfl) ?_) rfl (d _ hd rfl)
  ·rw[JT base b _ n ok (by rw[←j];exact l),WH,←j]at hJ;have y:0≤n*base∧n*base≤9223372036854775707:=by rcases hb with rfl|rfl<;>omega
   by_cases c:n*base+lH (bAt s i)>tV
   ·rw[if_pos c]at hJ;have g:n*base+lH (bAt s i)>9007199254740992:=c;try repeat' (first|refine KZ ?_|((with_reducible apply C1);exact rfl;exact EN;exact fun w μc hw o=>rE _ h1 h2 w μc hw))
    refine gG (i+1,0,false) ⟨by dsimp only;omega,by dsimp only;omega,by simp,by simp,?_⟩ (by dsimp only;omega) rfl PU (by repeat exact aH _);rw[hJ,show i-k+1=i+1-k by omega]
   ·rw[if_neg c]at hJ;have g:¬n*base+lH (bAt s i)>9007199254740992:=c;try repeat' (first|refine KZ ?_|((with_reducible apply C1);exact rfl;exact EN;exact fun w μc hw o=>rE _ h1 h2 w μc hw))
    refine gG (i+1,n*base+lH (bAt s i),ok) ⟨by dsimp only;omega,by dsimp only;omega,by dsimp only;omega,by dsimp only;omega,?_⟩ (by dsimp only;omega) rfl PU (by repeat exact aH _);rw[hJ,show i-k+1=i+1-k by omega]
 ·have hd:cI base ((bl s).drop i) n ok=(n,0,ok):=by rw[oA (by omega),cI]
  try repeat' (refine KZ ?_)
  exact nH rfl (by repeat first|exact jW|refine eN (by exact aN rfl) ?_) rfl (d _ hd rfl)
end Go.Proofs.YtknieidhopbngaaGreat
