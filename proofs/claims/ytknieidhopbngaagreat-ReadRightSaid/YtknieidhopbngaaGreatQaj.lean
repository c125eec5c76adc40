/- Good trees, one lemma a kind of node. -/
import Derived.Test.YtknieidhopbngaaGreatQai
set_option maxRecDepth 20000
namespace Go.Proofs.YtknieidhopbngaaGreat
section
open Go.RowKit Go.Vcg
variable{src:ByteArray}
theorem aGp:lX ⟨#[61]⟩ tG=true:=by decide
attribute [local irreducible] iQ lX gQ
theorem aI6{t:T}(h:isT 69 t=true):isT 77 t=true:=by rw[EI]at h;rw[aG1,h];rfl
theorem aI7{t:T}(h:isT 69 t=true):isT 65 t=true:=by rw[EI]at h;rw[aB7,h];rfl
theorem aI5{t:T}(h:isT 69 t=true):isT 97 t=true:=by rw[EI]at h;rw[aGy,h];rfl
theorem aC0{t:T}(h:isT 84 t=true):isT 70 t=true:=by rw[JL]at h;rw[ZA,h];rfl
theorem aI4{t:T}(h:isT 84 t=true):isT 71 t=true:=by rw[JL]at h;rw[aG4,h];rfl
theorem aI3{t:T}(h:isT 84 t=true):isT 76 t=true:=by rw[JL]at h;rw[aG2,h];rfl
theorem aFx{t:T}(h:isT 70 t=true):isT 72 t=true:=by rw[ZA]at h;rw[aB6,h];rfl
theorem c_Z{t:T}(h:isT 90 t=true):t.op=64:=by rw[aFb]at h;exact of_decide_eq_true h
theorem z_F{t:T}(h:isT 90 t=true):isT 70 t=false:=by
 have:=c_Z h;rw[ZA];simp[gV,mO,this]
theorem z_H{t:T}(h:isT 90 t=true):isT 72 t=false:=by
 have:=c_Z h;rw[aB6];simp[gV,mO,this]
theorem z_Q{t:T}(h:isT 90 t=true):isT 81 t=false:=by
 have:=c_Z h;rw[aG0,this];rfl
theorem pZ{o a n m:Int}{x:ByteArray}{ks:List T}(h:(decide (30≤o)&&decide (o≤38)||decide (42≤o)&&decide (o≤54))=true):isT 69 (T.mk o a n m x ks)=true:=by
 rw[EI];unfold iX;rw[if_neg (show¬(T.mk o a n m x ks).op=4 from fun(e:o=4)=>by subst e;simp at h)];exact h
theorem xC{o a n m:Int}{x:ByteArray}{ks:List T}(h:(decide (o=2)||decide (6≤o)&&decide (o≤19)||decide (o=21)||decide (o=23))=true):isT 83 (T.mk o a n m x ks)=true:=by
 rw[aFc];show(decide (o=2)||fF (T.mk o a n m x ks) 1||decide (6≤o)&&decide (o≤19)||decide (o=21)||decide (o=23))=true
 revert h;cases fF (T.mk o a n m x ks) 1<;>cases decide (o=2)<;>cases decide (6≤o)<;>cases decide (o≤19)<;>cases decide (o=21)<;>cases decide (o=23)<;>simp
theorem aDz{t:T}(h1:¬(t.op=23∨t.op=34∨t.op=51))(h2:t.op≠42∧t.op≠43∧t.op≠44∧t.op≠45∧t.op≠46)(hs:t.s=⟨#[]⟩):gD t=true:=by
 unfold gD;by_cases b:t.op=15∨t.op=16
 ·rw[if_pos b,hs];simp
 rw[if_neg b,if_neg h1];by_cases a:t.op=31
 ·rw[if_pos a]
 rw[if_neg a,if_neg h2.1,if_neg h2.2.1,if_neg h2.2.2.1,if_neg h2.2.2.2.1,if_neg h2.2.2.2.2,hs];simp
theorem gz{o a:Int}{ks:List T}(S:ByteArray)(ho:(decide (0≤o)&&decide (o≤64)&&[4,19,53,36,34,39,23,51,42,43,44,45,46].all (fun x:Int=>decide (o≠x)))=true)(c:eQ (nd o a ks)=S)(b:S≠⟨#[33]⟩)(ha:Pl src a)(hr:gQ (bl S) ks=true)(hk:∀k∈ks,Gt src k false):Gt src (nd o a ks) false:=by
 simp only[kQ,List.all_nil,eX,aM,decide_eq_true_eq]at ho;refine gn S (by omega) ha ⟨gH _,?_⟩ (.inl rfl) ?_ c b hr (fun h=>by cases h) (fun h=>by omega) (by omega) hk
 ·unfold nA;split
  ·decide
  ·split
   ·decide
   ·split
    ·decide
    ·split<;>decide
 ·exact aDz (t:=nd o a ks) (show¬(o=23∨o=34∨o=51)by omega) (show o≠42∧o≠43∧o≠44∧o≠45∧o≠46 by omega) rfl
theorem k1{p:T→Prop}{x:T}(h:p x):∀k∈[x],p k:=fun k hk=>by rw[bM.1 hk];exact h
theorem k2{p:T→Prop}{x:T}{l:List T}(h:p x)(g:∀k∈l,p k):∀k∈x::l,p k:=fun k hk=>(aV.1 hk).elim (fun e=>e▸h) (g k)
theorem k0{p:T→Prop}:∀k∈([]:List T),p k:=fun k hk=>by cases hk
theorem k3{p:T→Prop}{l m:List T}(h:∀k∈l,p k)(g:∀k∈m,p k):∀k∈l++m,p k:=fun k hk=>(bU.1 hk).elim (h k) (g k)
theorem vR{c:Int}{l:List T}(h:∀k∈l,Gc src c k):∀k∈l,Gt src k false:=fun k hk=>(h k hk).1
theorem vQ{c:Int}{l:List T}(h:∀k∈l,Gc src c k):∀k∈l,isT c k=true:=fun k hk=>(h k hk).2
section
variable{a:Int}(ha:Pl src a)
include ha
theorem g1{n:Int}{ks:List T}(hn:n=0∨n=1)(h:∀k∈ks,Gc src 83 k):Gt src (T.mk 1 a n 0 empty ks) false:=
 gn ⟨#[83,42]⟩ (by decide) ha (by show _∧n≤1;omega) (.inl rfl) (by simp[gD,T.op,T.s,empty]) rfl (by decide) (vC (vQ h)) (fun _=>by decide) (fun h=>absurd h (by decide)) (by decide) (vR h)
theorem g2{n:Int}{d:T}{ks:List T}(hn:0≤n∧n≤2)(hd:Gc src 68 d)(h:∀k∈ks,Gc src 68 k):Gc src 83 (T.mk 2 a n 0 empty (d::ks)):=
 ⟨gn ⟨#[68,68,42]⟩ (by decide) ha hn (.inl rfl) (by simp[gD,T.op,T.s,empty]) rfl (by decide) (lW (by decide) (by decide) hd.2 (vC (vQ h))) (fun _=>by decide) (fun h=>absurd h (by decide)) (by decide) (k2 hd.1 (vR h)),xC rfl⟩
theorem g3a{t:T}(h:Gc src 84 t):Gc src 68 (nd 3 a [t]):=
 ⟨gz ⟨#[84,69,63]⟩ (by decide) rfl (by decide) ha (lW (by decide) (by decide) h.2 (DN pD)) (k1 h.1),by rw[aG5];rfl⟩
theorem g3b{t v:T}(h:Gc src 84 t)(g:Gc src 69 v):Gc src 68 (nd 3 a [t,v]):=
 ⟨gz ⟨#[84,69,63]⟩ (by decide) rfl (by decide) ha (lW (by decide) (by decide) h.2 (OJ g.2 pD)) (k2 h.1 (k1 g.1)),by rw[aG5];rfl⟩
theorem g5{fs zs:List T}(h:∀k∈fs,Gc src 70 k)(g:zs=[]∨∃z,zs=[z]∧Gc src 90 z):Gc src 80 (nd 5 a (fs++zs)):=by
 refine⟨gz ⟨#[70,42,90,63]⟩ (by decide) rfl (by decide) ha ?_ ?_,by rw[aH5];rfl⟩
 ·rcases g with rfl|⟨z,rfl,b⟩
  ·exact rows (vQ h) (fun z b=>by cases b) (DN pD)
  ·exact rows (vQ h) (fun y c=>by cases c;exact z_F b.2) (OJ b.2 pD)
 ·rcases g with rfl|⟨z,rfl,b⟩
  ·exact k3 (vR h) k0
  ·exact k3 (vR h) (k1 b.1)
theorem g6{ks:List T}(h:∀k∈ks,Gc src 83 k):Gt src (nd 6 a ks) false:=gz ⟨#[83,42]⟩ (by decide) rfl (by decide) ha (vC (vQ h)) (vR h)
theorem g7:Gt src (nd 7 a []) false:=gz ⟨#[]⟩ (by decide) rfl (by decide) ha pD k0
theorem g8{e:T}(h:Gc src 69 e):Gt src (nd 8 a [e]) false:=gz ⟨#[69]⟩ (by decide) rfl (by decide) ha (nG h.2) (k1 h.1)
theorem g9a{c s:T}(h:Gc src 69 c)(g:Gc src 83 s):Gc src 83 (nd 9 a [c,s]):=
 ⟨gz ⟨#[69,83,83,63]⟩ (by decide) rfl (by decide) ha (lW (by decide) (by decide) h.2 (lW (by decide) (by decide) g.2 (DN pD))) (k2 h.1 (k1 g.1)),xC rfl⟩
theorem g9b{c s t:T}(h:Gc src 69 c)(g:Gc src 83 s)(f:Gc src 83 t):Gc src 83 (nd 9 a [c,s,t]):=
 ⟨gz ⟨#[69,83,83,63]⟩ (by decide) rfl (by decide) ha (lW (by decide) (by decide) h.2 (lW (by decide) (by decide) g.2 (OJ f.2 pD))) (k2 h.1 (k2 g.1 (k1 f.1))),xC rfl⟩
theorem g10{i c d s:T}(h:Gc src 73 i)(g:Gc src 77 c)(f:Gc src 77 d)(e:Gc src 83 s):Gc src 83 (nd 10 a [i,c,d,s]):=
 ⟨gz ⟨#[73,77,77,83]⟩ (by decide) rfl (by decide) ha (lW (by decide) (by decide) h.2 (lW (by decide) (by decide) g.2 (lW (by decide) (by decide) f.2 (nG e.2)))) (k2 h.1 (k2 g.1 (k2 f.1 (k1 e.1)))),xC rfl⟩
theorem g11{o:Int}{l e s:T}(ho:o=11∨o=12)(h:Gc src 76 l)(g:Gc src 69 e)(f:Gc src 83 s):Gc src 83 (nd o a [l,e,s]):=by
 rcases ho with rfl|rfl
 all_goals exact⟨gz ⟨#[76,69,83]⟩ (by decide) rfl (by decide) ha (lW (by decide) (by decide) h.2 (lW (by decide) (by decide) g.2 (nG f.2))) (k2 h.1 (k2 g.1 (k1 f.1))),xC rfl⟩
theorem g13{e s:T}(h:Gc src 69 e)(g:Gc src 83 s):Gc src 83 (nd 13 a [e,s]):=
 ⟨gz ⟨#[69,83]⟩ (by decide) rfl (by decide) ha (lW (by decide) (by decide) h.2 (nG g.2)) (k2 h.1 (k1 g.1)),xC rfl⟩
theorem g14{e s:T}(h:Gc src 69 e)(g:Gc src 83 s):Gc src 83 (nd 14 a [s,e]):=
 ⟨gz ⟨#[83,69]⟩ (by decide) rfl (by decide) ha (lW (by decide) (by decide) g.2 (nG h.2)) (k2 g.1 (k1 h.1)),xC rfl⟩
theorem g15{o:Int}{x:ByteArray}(ho:o=15∨o=16)(b:x.size≤4000)(hf:x=empty∨iQ x=true):Gc src 83 (T.mk o a 0 0 x []):=by
 have hw:(decide (x=⟨#[]⟩)||iQ x)=true:=by
  rcases hf with rfl|h
  ·simp[empty]
  ·rw[h,Bool.or_true]
 rcases ho with rfl|rfl
 all_goals exact⟨gs ⟨#[]⟩ (by decide) (by decide) ha (by decide) (by unfold gD;rw[if_pos (by first|exact .inl rfl|exact .inr rfl)];exact hw) b rfl (by decide) pD (by decide) (fun h=>absurd h (by decide)) k0,xC rfl⟩
theorem aIj:Gc src 83 (nd 17 a []):=⟨gz ⟨#[69,63]⟩ (by decide) rfl (by decide) ha (DN pD) k0,xC rfl⟩
theorem aIi{e:T}(h:Gc src 69 e):Gc src 83 (nd 17 a [e]):=⟨gz ⟨#[69,63]⟩ (by decide) rfl (by decide) ha (OJ h.2 pD) (k1 h.1),xC rfl⟩
theorem g18{e:T}(h:Gc src 69 e):Gc src 83 (nd 18 a [e]):=⟨gz ⟨#[69]⟩ (by decide) rfl (by decide) ha (nG h.2) (k1 h.1),xC rfl⟩
theorem g19{b c y:T}(h:Gc src 66 b)(g:Gc src 67 c)(f:Gc src 89 y)(i:c.op≠7∨y.op≠7):Gc src 83 (nd 19 a [b,c,y]):=by
 refine⟨.of (t:=nd 19 a [b,c,y]) (show(19:Int)≠53 by decide) (BE (by decide) ha.1 (by decide) (.inl rfl) (by simp[gD,T.op,T.s,empty])) (fun h=>by simp[iD,T.op]at h) ?_ (xJ ha.2 (by decide) (by decide) (fun h=>absurd h (by decide)) (fun h=>absurd h (by decide))) (k2 h.1 (k2 g.1 (k1 f.1))),xC rfl⟩;unfold mI pH pV;rw[if_neg (show¬(nd 19 a [b,c,y]).op=36 from show¬(19:Int)=36 by decide),if_pos (show(nd 19 a [b,c,y]).op=19 from rfl),if_neg (show¬(nd 19 a [b,c,y]).op=53 from show¬(19:Int)=53 by decide)];have hr:gQ (bl ⟨#[66,67,89]⟩) [b,c,y]=true:=lW (by decide) (by decide) h.2 (lW (by decide) (by decide) g.2 (nG f.2));have hk:eQ (nd 19 a [b,c,y])=⟨#[66,67,89]⟩:=rfl;rw[hk];have d:gQ (bl ⟨#[66,67,89]⟩) (nd 19 a [b,c,y]).kids=true:=hr;rw[d];simp only[T.kids,eX,aM,aY,decide_eq_true_eq];exact⟨by decide,i⟩
theorem g20{g b:T}(h:Gc src 71 g)(f:Gc src 66 b):Gc src 67 (nd 20 a [g,b]):=
 ⟨gz ⟨#[71,66]⟩ (by decide) rfl (by decide) ha (lW (by decide) (by decide) h.2 (nG f.2)) (k2 h.1 (k1 f.1)),by rw[aG6];rfl⟩
theorem g21{e:T}{ks:List T}(h:Gc src 69 e)(g:∀k∈ks,Gc src 75 k):Gc src 83 (nd 21 a (e::ks)):=
 ⟨gz ⟨#[69,75,42]⟩ (by decide) rfl (by decide) ha (lW (by decide) (by decide) h.2 (vC (vQ g))) (k2 h.1 (vR g)),xC rfl⟩
theorem aIh{e:T}{ks:List T}(h:Gc src 69 e)(g:∀k∈ks,Gc src 83 k):Gc src 75 (nd 22 a (e::ks)):=
 ⟨gz ⟨#[69,83,42]⟩ (by decide) rfl (by decide) ha (lW (by decide) (by decide) h.2 (vC (vQ g))) (k2 h.1 (vR g)),by rw[aG3];rfl⟩
theorem aIg{ks:List T}(g:∀k∈ks,Gc src 83 k):Gc src 75 (T.mk 22 a 1 0 empty ks):=
 ⟨gn ⟨#[83,42]⟩ (by decide) ha (by decide) (.inl rfl) (by simp[gD,T.op,T.s,empty]) rfl (by decide) (vC (vQ g)) (fun _=>by decide) (fun h=>absurd h (by decide)) (by decide) (vR g),by rw[aG3];rfl⟩
theorem g23{x:ByteArray}{k:T}(b:x.size≤4000)(hf:iQ x=true)(g:Gc src 83 k):Gc src 83 (T.mk 23 a 0 0 x [k]):=
 ⟨gs ⟨#[83]⟩ (by decide) (by decide) ha (by decide) (by simpa[gD,T.op,T.s]using hf) b rfl (by decide) (nG g.2) (fun _=>by decide) (fun h=>absurd h (by decide)) (k1 g.1),xC rfl⟩
theorem g30{n:Int}(hn:0≤n∧n≤9007199254740992):Gt src (T.mk 30 a n 0 empty []) false:=
 gn ⟨#[]⟩ (by decide) ha hn (.inl rfl) (by simp[gD,T.op,T.s,empty]) rfl (by decide) pD (fun _=>by decide) (fun h=>absurd h (by decide)) (by decide) k0
theorem g31{x:ByteArray}(b:x.size≤4000):Gt src (T.mk 31 a 0 0 x []) false:=
 gs ⟨#[]⟩ (by decide) (by decide) ha (by decide) (by simp[gD,T.op]) b rfl (by decide) pD (by decide) (fun h=>absurd h (by decide)) k0
theorem g32{n:Int}(hn:0≤n∧n≤1):Gt src (T.mk 32 a n 0 empty []) false:=
 gn ⟨#[]⟩ (by decide) ha hn (.inl rfl) (by simp[gD,T.op,T.s,empty]) rfl (by decide) pD (fun _=>by decide) (fun h=>absurd h (by decide)) (by decide) k0
theorem g33{o:Int}(ho:o=33∨o=35):Gc src 69 (nd o a []):=by
 rcases ho with rfl|rfl
 all_goals exact⟨gz ⟨#[]⟩ (by decide) rfl (by decide) ha pD k0,pZ rfl⟩
theorem g34{x:ByteArray}(b:x.size≤4000)(hf:iQ x=true)(hs:AtS src a x):Gt src (T.mk 34 a 0 0 x []) false:=
 gs ⟨#[]⟩ (by decide) (by decide) ha (by decide) (by simpa[gD,T.op,T.s]using hf) b rfl (by decide) pD (fun _=>by decide) (fun _=>hs) k0
theorem g36{ks:List T}(h:DF iX ks)(g:∀k∈ks,Gt src k false):Gc src 69 (nd 36 a ks):=by
 refine⟨.of (t:=nd 36 a ks) (show(36:Int)≠53 by decide) (BE (by decide) ha.1 (by decide) (.inl rfl) (by simp[gD,T.op,T.s,empty])) (fun h=>by simp[iD,T.op]at h) ?_ (xJ ha.2 (by decide) (by decide) (fun h=>absurd h (by decide)) (fun h=>absurd h (by decide))) g,pZ rfl⟩;have b:pV (nd 36 a ks)=true:=yD (show(36:Int)≠19 by decide) (show(36:Int)≠53 by decide);unfold mI pH;rw[b,if_pos (show(nd 36 a ks).op=36 from rfl),eX];exact KL h
theorem g37{ks:List T}(h:∀k∈ks,Gc src 65 k):Gc src 69 (nd 37 a ks):=⟨gz ⟨#[65,42]⟩ (by decide) rfl (by decide) ha (vC (vQ h)) (vR h),pZ rfl⟩
theorem g38{ks:List T}(h:∀k∈ks,Gc src 82 k):Gc src 69 (nd 38 a ks):=⟨gz ⟨#[82,42]⟩ (by decide) rfl (by decide) ha (vC (vQ h)) (vR h),pZ rfl⟩
theorem g40:Gc src 65 (nd 40 a [])∧Gc src 72 (nd 40 a []):=
 have h:=gz (src:=src) (o:=40) (a:=a) (ks:=[]) ⟨#[]⟩ (by decide) rfl (by decide) ha pD k0
 ⟨⟨h,by rw[aB7];rfl⟩,h,by rw[aB6];rfl⟩
theorem g41{e:T}(h:Gc src 69 e):Gt src (nd 41 a [e]) false∧isT 65 (nd 41 a [e])=true∧isT 97 (nd 41 a [e])=true:=
 ⟨gz ⟨#[69]⟩ (by decide) rfl (by decide) ha (nG h.2) (k1 h.1),by rw[aB7];rfl,by rw[aGy];rfl⟩
theorem g42{x:ByteArray}{e:T}(b:lX x yK=true)(h:Gc src 69 e)(hs:x.size≤4000):Gc src 69 (T.mk 42 a 0 0 x [e]):=
 ⟨gs ⟨#[69]⟩ (by decide) (by decide) ha (by decide) (by simpa[gD,T.op,T.s]using b) hs rfl (by decide) (nG h.2) (fun _=>by decide) (fun h=>absurd h (by decide)) (k1 h.1),pZ rfl⟩
theorem g43{x:ByteArray}{n:Int}{e:T}(hn:0≤n∧n≤1)(b:lX x tH=true)(h:Gc src 116 e)(hs:x.size≤4000):Gc src 69 (T.mk 43 a n 0 x [e]):=
 ⟨gs ⟨#[116]⟩ (by decide) (by decide) ha hn (by simpa[gD,T.op,T.s]using b) hs rfl (by decide) (nG h.2) (fun _=>by decide) (fun h=>absurd h (by decide)) (k1 h.1),pZ rfl⟩
theorem g44{x:ByteArray}{e f:T}(b:lX x yJ=true)(h:Gc src 69 e)(g:Gc src 69 f)(hs:x.size≤4000):Gc src 69 (T.mk 44 a 0 0 x [e,f]):=
 ⟨gs ⟨#[69,69]⟩ (by decide) (by decide) ha (by decide) (by simpa[gD,T.op,T.s]using b) hs rfl (by decide) (lW (by decide) (by decide) h.2 (nG g.2)) (fun _=>by decide) (fun h=>absurd h (by decide)) (k2 h.1 (k1 g.1)),pZ rfl⟩
theorem g45{x:ByteArray}{e f:T}(b:lX x wJ=true)(h:Gc src 69 e)(g:Gc src 69 f)(hs:x.size≤4000):Gc src 69 (T.mk 45 a 0 0 x [e,f]):=
 ⟨gs ⟨#[69,69]⟩ (by decide) (by decide) ha (by decide) (by simpa[gD,T.op,T.s]using b) hs rfl (by decide) (lW (by decide) (by decide) h.2 (nG g.2)) (fun _=>by decide) (fun h=>absurd h (by decide)) (k2 h.1 (k1 g.1)),pZ rfl⟩
theorem aId{e f:T}(h:Gc src 84 e)(g:Gc src 69 f):Gc src 69 (T.mk 46 a 0 0 ⟨#[61]⟩ [e,f]):=
 ⟨gs ⟨#[84,69]⟩ (by decide) (by decide) ha (by decide) (by rw[show gD (T.mk 46 a 0 0 ⟨#[61]⟩ [e,f])=lX ⟨#[61]⟩ tG from rfl];exact aGp) (by decide) rfl (by decide) (lW (by decide) (by decide) h.2 (nG g.2)) (fun _=>by decide) (fun h=>absurd h (by decide)) (k2 h.1 (k1 g.1)),pZ rfl⟩
theorem aIc{x:ByteArray}{e f:T}(b:lX x tG=true)(hn:x≠⟨#[61]⟩)(h:Gc src 116 e)(g:Gc src 69 f)(hs:x.size≤4000):Gc src 69 (T.mk 46 a 0 0 x [e,f]):=
 ⟨gs ⟨#[116,69]⟩ (by decide) (by decide) ha (by decide) (by simpa[gD,T.op,T.s]using b) hs (by simp[eQ,vL,T.op,T.s,hn]) (by decide) (lW (by decide) (by decide) h.2 (nG g.2)) (fun _=>by decide) (fun h=>absurd h (by decide)) (k2 h.1 (k1 g.1)),pZ rfl⟩
theorem g47{c e f:T}(i:Gc src 69 c)(h:Gc src 69 e)(g:Gc src 69 f):Gc src 69 (nd 47 a [c,e,f]):=
 ⟨gz ⟨#[69,69,69]⟩ (by decide) rfl (by decide) ha (lW (by decide) (by decide) i.2 (lW (by decide) (by decide) h.2 (nG g.2))) (k2 i.1 (k2 h.1 (k1 g.1))),pZ rfl⟩
theorem g48{e f:T}{ks:List T}(h:Gc src 69 e)(g:Gc src 69 f)(i:∀k∈ks,Gc src 69 k):Gc src 69 (nd 48 a (e::f::ks)):=
 ⟨gz ⟨#[69,69,69,42]⟩ (by decide) rfl (by decide) ha (lW (by decide) (by decide) h.2 (lW (by decide) (by decide) g.2 (vC (vQ i)))) (k2 h.1 (k2 g.1 (vR i))),pZ rfl⟩
theorem g50{e:T}{ks:List T}(h:Gc src 69 e)(i:∀k∈ks,Gc src 97 k):Gc src 69 (nd 50 a (e::ks)):=
 ⟨gz ⟨#[69,97,42]⟩ (by decide) rfl (by decide) ha (lW (by decide) (by decide) h.2 (vC (vQ i))) (k2 h.1 (vR i)),pZ rfl⟩
theorem aIb:Gc src 69 (nd 54 a []):=⟨gz ⟨#[69,63]⟩ (by decide) rfl (by decide) ha (DN pD) k0,pZ rfl⟩
theorem aIa{e:T}(h:Gc src 69 e):Gc src 69 (nd 54 a [e]):=⟨gz ⟨#[69,63]⟩ (by decide) rfl (by decide) ha (OJ h.2 pD) (k1 h.1),pZ rfl⟩
theorem aH9{e:T}(h:Gc src 69 e):Gc src 69 (T.mk 54 a 1 0 empty [e]):=
 ⟨gn ⟨#[69]⟩ (by decide) ha (by decide) (.inl rfl) (by simp[gD,T.op,T.s,empty]) rfl (by decide) (nG h.2) (fun _=>by decide) (fun h=>absurd h (by decide)) (by decide) (k1 h.1),pZ rfl⟩
theorem g60{fs zs:List T}(h:∀k∈fs,Gc src 72 k)(g:zs=[]∨∃z,zs=[z]∧Gc src 90 z):Gc src 84 (nd 60 a (fs++zs)):=by
 refine⟨gz ⟨#[72,42,90,63]⟩ (by decide) rfl (by decide) ha ?_ ?_,by rw[JL];rfl⟩
 ·rcases g with rfl|⟨z,rfl,b⟩
  ·exact rows (vQ h) (fun z b=>by cases b) (DN pD)
  ·exact rows (vQ h) (fun y c=>by cases c;exact z_H b.2) (OJ b.2 pD)
 ·rcases g with rfl|⟨z,rfl,b⟩
  ·exact k3 (vR h) k0
  ·exact k3 (vR h) (k1 b.1)
theorem g61{fs zs:List T}(h:∀k∈fs,Gc src 81 k)(g:zs=[]∨∃z,zs=[z]∧Gc src 90 z):Gc src 84 (nd 61 a (fs++zs)):=by
 refine⟨gz ⟨#[81,42,90,63]⟩ (by decide) rfl (by decide) ha ?_ ?_,by rw[JL];rfl⟩
 ·rcases g with rfl|⟨z,rfl,b⟩
  ·exact rows (vQ h) (fun z b=>by cases b) (DN pD)
  ·exact rows (vQ h) (fun y c=>by cases c;exact z_Q b.2) (OJ b.2 pD)
 ·rcases g with rfl|⟨z,rfl,b⟩
  ·exact k3 (vR h) k0
  ·exact k3 (vR h) (k1 b.1)
abbrev Ky(src:ByteArray)(c:Int)(k:T):Prop:=Gt src k false∧(c=0∧isT 107 k=true∨c=1∧isT 69 k=true)
theorem g62{c:Int}{k v:T}(h:Ky src c k)(g:Gc src 70 v):Gc src 81 (T.mk 62 a 0 c empty [k,v]):=by
 refine⟨?_,by rw[aG0];rfl⟩;rcases h with⟨h1,⟨rfl,h2⟩|⟨rfl,h2⟩⟩
 ·exact gn ⟨#[107,70]⟩ (by decide) ha (by decide) (.inl rfl) (by simp[gD,T.op,T.s,empty]) rfl (by decide) (lW (by decide) (by decide) h2 (nG g.2)) (fun _=>by decide) (fun h=>absurd h (by decide)) (by decide) (k2 h1 (k1 g.1))
 ·exact gn ⟨#[69,70]⟩ (by decide) ha (by decide) (.inr ⟨rfl,rfl⟩) (by simp[gD,T.op,T.s,empty]) rfl (by decide) (lW (by decide) (by decide) h2 (nG g.2)) (fun _=>by decide) (fun h=>absurd h (by decide)) (by decide) (k2 h1 (k1 g.1))
theorem g63{t v:T}(h:Gc src 84 t)(g:Gc src 69 v):Gc src 70 (nd 63 a [t,v]):=
 ⟨gz ⟨#[84,69]⟩ (by decide) rfl (by decide) ha (lW (by decide) (by decide) h.2 (nG g.2)) (k2 h.1 (k1 g.1)),by rw[ZA];rfl⟩
theorem g64{t:T}(h:Gc src 84 t):Gc src 90 (nd 64 a [t]):=⟨gz ⟨#[84]⟩ (by decide) rfl (by decide) ha (nG h.2) (k1 h.1),by rw[aFb];rfl⟩
theorem aCk{n c:Int}{k v:T}(d:UInt8)(hn:n=0∧d=69∨n=1∧d=103∨n=2∧d=115∨n=5∧d=109)(h:Ky src c k)(g:Gc src (d.toNat:Int) v):Gc src 82 (T.mk 39 a n c empty [k,v]):=by
 refine⟨?_,by rw[YZ];rfl⟩;rcases h with⟨h1,⟨rfl,h2⟩|⟨rfl,h2⟩⟩
 ·rcases hn with⟨rfl,rfl⟩|⟨rfl,rfl⟩|⟨rfl,rfl⟩|⟨rfl,rfl⟩
  all_goals exact gn ⟨#[107,_]⟩ (by decide) ha (by decide) (.inl rfl) (by simp[gD,T.op,T.s,empty]) rfl (by decide) (lW (by decide) (by decide) h2 (nG g.2)) (fun _=>by decide) (fun _ h=>absurd h (by decide)) (by decide) (k2 h1 (k1 g.1))
 ·rcases hn with⟨rfl,rfl⟩|⟨rfl,rfl⟩|⟨rfl,rfl⟩|⟨rfl,rfl⟩
  all_goals exact gn ⟨#[69,_]⟩ (by decide) ha (by decide) (.inr ⟨rfl,rfl⟩) (by simp[gD,T.op,T.s,empty]) rfl (by decide) (lW (by decide) (by decide) h2 (nG g.2)) (fun _=>by decide) (fun _ h=>absurd h (by decide)) (by decide) (k2 h1 (k1 g.1))
theorem aIe{k:T}(h:Gc src 119 k)(hs:AtS src k.at' k.s):Gc src 82 (T.mk 39 a 3 0 empty [k]):=
 ⟨gn ⟨#[119]⟩ (by decide) ha (by decide) (.inl rfl) (by simp[gD,T.op,T.s,empty]) rfl (by decide) (nG h.2) (fun _=>by decide) (fun _ _ x b=>by cases b;exact hs) (by decide) (k1 h.1),by rw[YZ];rfl⟩
theorem aIf{k:T}(h:Gc src 69 k):Gc src 82 (T.mk 39 a 4 0 empty [k]):=
 ⟨gn ⟨#[69]⟩ (by decide) ha (by decide) (.inl rfl) (by simp[gD,T.op,T.s,empty]) rfl (by decide) (nG h.2) (fun _=>by decide) (fun _ h=>absurd h (by decide)) (by decide) (k1 h.1),by rw[YZ];rfl⟩
end
end
section
open Go.RowKit Go.Vcg
variable{src:ByteArray}
attribute [local irreducible] iQ lX gQ mI
def It1(src:ByteArray)(may:Bool)(t:T):Prop:=Gc src 84 t∨may=true∧Gc src 70 t
def Cov(src:ByteArray)(t:T):Prop:=∀(N:Nat) (d:Int) (may:Bool),t.size≤N→(elF N t d may).2=0→It1 src may (elF N t d may).1
theorem It1.f{may:Bool}{t:T}(h:It1 src may t):Gc src 70 t:=by
 rcases h with h|⟨-,h⟩
 ·exact⟨h.1,aC0 h.2⟩
 ·exact h
theorem It1.t{t:T}(h:It1 src false t):Gc src 84 t:=by
 rcases h with h|⟨h,-⟩
 ·exact h
 ·cases h
def CI(src:ByteArray)(t:T):Prop:=(t.op=40∧Gt src t false)∨(∃k,t.op=41∧t.kids=[k]∧Pl src t.at' ∧Cov src k)∨(t.op≠40∧t.op≠41∧Cov src t)
def CP'(src:ByteArray)(t:T):Prop:=t.op=39∧Pl src t.at' ∧(t.n=4→∀k,t.kids=[k]→eW k=true→Gt src k false)∧
 (t.n=3→∀k l,t.kids=k::l→isT 119 k=true→Gt src k false∧AtS src k.at' k.s∧(∀d∈l,Gc src 69 d)∧t.m=0)∧(t.n=3→∀k l,t.kids=k::l→isT 119 k=true)∧
 (t.n=0→∀a b,t.kids=[a,b]→Ky src t.m a∧Cov src b)
theorem DC{t:T}(h:eW t=true):isT 84 t=true∧isT 116 t=true:=by
 have:mO t=true:=by unfold eW at h;unfold mO;exact h
 rw[JL,aG8];unfold gV;rw[this];exact⟨rfl,rfl⟩
theorem aE1{t:T}(h:gJ t=true):isT 84 t=true:=by
 rw[JL];unfold gJ eW at h;unfold gV mO;exact h
theorem rD{t k:T}(h:k∈t.kids):k.size<t.size:=by
 obtain⟨i,hi⟩:=List.mem_iff_getElem?.1 h;exact T.dX hi
theorem DG(t:T):1≤t.size:=by have:=T.size_eq t;omega
theorem ME{ks:List T}{i:Nat}{d:Int}{kid:T→TE}{t:T}(hi:ks[i]? =some t)(ha:Pl src t.at')(hk:∀k,t.kids=[k]→(kid k).2=0→Gc src 84 (kid k).1)(h:(oJ ks i d kid).2=0):Gc src 90 (oJ ks i d kid).1∧i+1=ks.length:=by
 unfold oJ at h⊢;by_cases c:d>200
 ·rw[if_pos c]at h;cases h
 ·rw [if_neg c,hi]at h⊢;dsimp only at h⊢;by_cases h1:i+1≠ks.length
  ·rw[if_pos h1]at h;cases h
  ·rw[if_neg h1]at h⊢;split at h
   ·rename_i k a;by_cases h2:(kid k).2≠0
    ·rw[if_pos h2]at h;exact absurd h h2
    ·rw[if_neg h2];have b:(kid k).2=0:=Decidable.not_not.1 h2;exact⟨g64 ha (hk k a b),Decidable.not_not.1 h1⟩
   ·cases h
theorem YX{N:Nat}{ks:List T}{i:Nat}{d:Int}{t:T}(hi:ks[i]? =some t)(hc:CI src t)(hs:t.size≤N+1)(h:(sY (elF N) ks i d).2=0)(j:∀k∈t.kids,k.size≤N)(l:t.size≤N):Gc src 72 (sY (elF N) ks i d).1∨Gc src 90 (sY (elF N) ks i d).1∧i+1=ks.length:=by
 unfold sY at h⊢;rw[hi]at h⊢;dsimp only at h⊢;rcases hc with⟨a,hg⟩|⟨k,c,hk,ha,b⟩|⟨a,c,b⟩
 ·rw[if_neg (by omega),if_pos a];exact .inl ⟨hg,by rw[aB6,a];simp⟩
 ·rw[if_pos c]at h⊢;refine .inr (ME hi ha (fun k' g h2=>?_) h);rw[hk]at g;cases g;exact(b N _ false (j k (by rw[hk];exact aA)) h2).t
 ·rw[if_neg c,if_neg a]at h⊢;have:=(b N d true l h).f;exact .inl ⟨this.1,aFx this.2⟩
theorem UK{t:T}{d:Int}(b:t.op=39)(ha:Pl src t.at')(h3:∀k l,t.kids=k::l→isT 119 k=true→Gt src k false∧AtS src k.at' k.s∧(∀d∈l,Gc src 69 d)∧t.m=0)(hw:∀k l,t.kids=k::l→isT 119 k=true)(h:(nF t d).2=0):Gc src 81 (nF t d).1:=by
 have a:∀{k:T},isT 119 k=true→Gt src k false→AtS src k.at' k.s→isT 107 k=true∧Gt src (T.mk 34 k.at' 0 0 k.s []) false:=by intro k h1 h2 h4;rw[aDq]at h1;unfold sE at h1;rw[aM,decide_eq_true_eq]at h1;exact⟨by rw[ZB,h1.1];rfl,g34 h2.at' h2.pn.sz h1.2 h4⟩
 unfold nF at h⊢;split at h
 ·rename_i k hk;by_cases h1:k.op≠31
  ·rw[if_pos h1]at h;cases h
  ·rw[if_neg h1]at h⊢;by_cases h2:d+1>200
   ·rw[if_pos h2]at h;cases h
   ·rw[if_neg h2];obtain⟨g1,g2,-,g4⟩:=h3 k [] hk (hw k [] hk);obtain⟨g5,g6⟩:=a (hw k [] hk) g1 g2;rw[g4];exact g62 ha ⟨g1,.inl ⟨rfl,g5⟩⟩ ⟨g6,by rw[ZA];rfl⟩
 ·rename_i k e hk;by_cases h1:k.op≠31
  ·rw[if_pos h1]at h;cases h
  ·rw[if_neg h1]at h⊢;by_cases h2:d+2>200
   ·rw[if_pos h2]at h;cases h
   ·rw[if_neg h2];obtain⟨g1,g2,g3,g4⟩:=h3 k [e] hk (hw k [e] hk);obtain⟨g5,g6⟩:=a (hw k [e] hk) g1 g2;rw[g4];exact g62 ha ⟨g1,.inl ⟨rfl,g5⟩⟩ (g63 g1.at' ⟨g6,by rw[JL];rfl⟩ (g3 e aA))
 ·cases h
theorem YB{N:Nat}{ks:List T}{i:Nat}{d:Int}{t:T}(hi:ks[i]? =some t)(hc:CP' src t)(c:∀k∈t.kids,k.size≤N)(h:(mY (elF N) ks i d).2=0):Gc src 81 (mY (elF N) ks i d).1∨Gc src 90 (mY (elF N) ks i d).1∧i+1=ks.length:=by
 obtain⟨g,ha,c4,c3,cw,c0⟩:=hc;unfold mY at h⊢;rw[hi]at h⊢;dsimp only at h⊢;by_cases h1:t.op=39∧t.n=4
 ·rw[if_pos h1]at h⊢;refine .inr (ME hi ha (fun k hk h2=>?_) h);unfold GZ at h2⊢;by_cases h3:d+1>200
  ·rw[if_pos h3]at h2;cases h2
  ·rw[if_neg h3]at h2⊢;by_cases h4:eW k=true
   ·rw[if_pos h4];exact⟨c4 h1.2 k hk h4,(DC h4).1⟩
   ·rw[if_neg h4]at h2;cases h2
 ·rw [if_neg h1]at h⊢;by_cases h2:d>200
  ·rw[if_pos h2]at h;cases h
  ·rw [if_neg h2]at h⊢;by_cases h3:t.op=39∧t.n=3
   ·rw[if_pos h3]at h⊢;exact .inl (UK g ha (c3 h3.2) (cw h3.2) h)
   ·rw [if_neg h3]at h⊢;by_cases h4:t.op≠39∨t.n≠0
    ·rw[if_pos h4]at h;cases h
    ·rw[if_neg h4]at h⊢;have j:t.n=0:=by omega
     split at h
     ·rename_i a b hk;obtain⟨g1,g2⟩:=c0 j a b hk;by_cases h5:(elF N b (d+1) true).2≠0
      ·rw[if_pos h5]at h;exact absurd h h5
      ·rw[if_neg h5];exact .inl (g62 ha g1 (g2 N _ true (c b (by rw[hk];simp)) (Decidable.not_not.1 h5)).f)
     ·cases h
theorem IC{g:Nat→TE}{n:Nat}(h:BG g n=none):∀i,i<n→(g i).2=0:=by
 intro i hi;unfold BG at h;have:=List.find?_eq_none.1 h i (List.mem_range.2 hi);simpa using this
theorem DH{p q:T→Prop}:∀(n:Nat) (g:Nat→T),(∀i,i<n→p (g i)∨q (g i)∧i+1=n)→∃fs zs,(List.range n).map g=fs++zs∧(∀k∈fs,p k)∧(zs=[]∨∃z,zs=[z]∧q z)
 |0,g,_=>⟨[],[],rfl,k0,.inl rfl⟩
 | n+1,g,h=>by
   have hp:∀i,i<n→p (g i):=fun i hi=>(h i (by omega)).elim id fun x=>absurd x.2 (by omega);rw[lZ,aE];refine(h n (by omega)).elim (fun h1=>⟨(List.range n).map g++[g n],[],(bP _).symm,k3 (fun k hk=>?_) (k1 h1),.inl rfl⟩) (fun h1=>⟨(List.range n).map g,[g n],rfl,fun k hk=>?_,.inr ⟨_,rfl,h1.1⟩⟩);all_goals
    obtain⟨i,hi,rfl⟩:=List.mem_map.1 hk;exact hp i (List.mem_range.1 hi)
theorem YJ{t:T}(h:t.op=37∨t.op=38):gJ t=false:=by
 unfold gJ eW;simp only[Bool.or_eq_false_iff,Bool.and_eq_false_iff,decide_eq_false_iff_not];omega
theorem TW{t:T}(b:t.op=37)(ha:Pl src t.at')(h:∀k∈t.kids,CI src k):Cov src t:=by
 intro N d may j he;cases N with
 |zero=>have:=DG t;omega
 | succ N=>
   have a:∀k∈t.kids,k.size≤N:=fun k hk=>by have:=rD hk;omega
   unfold elF at he⊢;by_cases g:d>200
   ·rw[if_pos g]at he;cases he
   ·rw[if_neg g,if_neg (by rw[YJ (.inl b)];simp),if_neg (by omega),if_pos (.inl b)]at he⊢;simp only[b,if_true]at he⊢;split at he
    ·rename_i i hi;have:=List.find?_some hi;simp only[decide_eq_true_eq]at this;exact absurd he this
    ·rename_i hn;have c:=IC hn;obtain⟨fs,zs,e1,e2,e3⟩:=DH (p:=Gc src 72) (q:=Gc src 90) t.kids.length (fun i=>(sY (elF N) t.kids i (d+1)).1) (fun i hi=>by
      have hg:=aI hi;have hm:=aZ hg;exact YX hg (h _ hm) (by have:=a _ hm;omega) (c i hi) (fun k hk=>by have:=rD hk;have:=a _ hm;omega) (a _ hm))
     rw[e1];exact .inl (g60 ha e2 e3)
theorem SL{t:T}(b:t.op=38)(ha:Pl src t.at')(h:∀k∈t.kids,CP' src k):Cov src t:=by
 intro N d may j he;cases N with
 |zero=>have:=DG t;omega
 | succ N=>
   have c:∀k∈t.kids,k.size≤N:=fun k hk=>by have:=rD hk;omega
   have e37:¬t.op=37:=by omega
   unfold elF at he⊢;by_cases g:d>200
   ·rw[if_pos g]at he;cases he
   ·rw[if_neg g,if_neg (by rw[YJ (.inr b)];simp),if_neg (by omega),if_pos (.inr b)]at he⊢;simp only[e37,if_false]at he⊢;split at he
    ·rename_i i hi;have:=List.find?_some hi;simp only[decide_eq_true_eq]at this;exact absurd he this
    ·rename_i hn;have a:=IC hn;obtain⟨fs,zs,e1,e2,e3⟩:=DH (p:=Gc src 81) (q:=Gc src 90) t.kids.length (fun i=>(mY (elF N) t.kids i (d+1)).1) (fun i hi=>by
      have hg:=aI hi;have hm:=aZ hg;exact YB hg (h _ hm) (fun k hk=>by have:=rD hk;have:=c _ hm;omega) (a i hi))
     rw[e1];exact .inl (g61 ha e2 e3)
end
section
open Go.RowKit Go.Vcg
variable{src:ByteArray}
attribute [local irreducible] iQ lX gQ mI
theorem aAe{p:T→Bool}:∀{l:List T},l.dropWhile p=[]→∀k∈l,p k=true
 |[],_,k,hk=>by cases hk
 | x::l,h,k,hk=>by
   rw[fZ]at h;by_cases g:p x=true
   ·rw[if_pos g]at h;exact(aV.1 hk).elim (fun e=>e▸g) (aAe h k)
   ·rw[if_neg g]at h;cases h
theorem RU{c:UInt8}{l:List T}(h:gQ [c,42] l=true):∀k∈l,isT (c.toNat:Int) k=true:=by
 rw[zS,sR,decide_eq_true_eq,List.length_eq_zero_iff]at h;exact aAe h
theorem RW{c:UInt8}{l:List T}(h:gQ [c] l=true):∃k,l=[k]∧isT (c.toNat:Int) k=true:=by
 rw[IR]at h;cases l with
 |nil=>cases h
 | cons k r=>
   dsimp only at h;by_cases g:isT (c.toNat:Int) k=true
   ·rw[if_pos g,sR,decide_eq_true_eq,List.length_eq_zero_iff]at h;exact⟨k,by rw[h],g⟩
   ·rw[if_neg g]at h;cases h
theorem XJ{c d:UInt8}{l:List T}(h1:d≠42)(h2:d≠63)(h:gQ [c,d] l=true):∃x y,l=[x,y]∧isT (c.toNat:Int) x=true∧isT (d.toNat:Int) y=true:=by
 rw[IQ h1 h2]at h;cases l with
 |nil=>cases h
 | cons k r=>
   dsimp only at h;by_cases g:isT (c.toNat:Int) k=true
   ·rw[if_pos g]at h;obtain⟨y,rfl,a⟩:=RW h;exact⟨k,y,rfl,g,a⟩
   ·rw[if_neg g]at h;cases h
theorem xZ{t:T}{S:ByteArray}(h:mI t=true)(ho:t.op≠19∧t.op≠53∧t.op≠36)(hs:eQ t=S)(a:S≠⟨#[33]⟩):gQ (bl S) t.kids=true:=by rw[vD ho.1 ho.2.1 ho.2.2 hs a]at h;exact h
theorem aFa{t:T}{d:UInt8}(hg:Gt src t false)(j:t.op=39)(hn:t.n≠3∧t.n≠4)(d1:d≠42)(d2:d≠63)(i:eQ t=xD t++⟨#[d]⟩)(a b:T)(hk:t.kids=[a,b]):Ky src t.m a∧isT (d.toNat:Int) b=true:=by
 have ha:Gt src a false:=hg.kid (by omega) (by rw[hk];simp);have g:xD t++⟨#[d]⟩≠(⟨#[33]⟩:ByteArray):=fun e=>by have:=congrArg ByteArray.size e;rw[jQ,HU]at this;cases this
 have hr:=xZ hg.kd (by omega) i g;unfold xD at hr;by_cases hm:t.m=1
 ·rw[if_pos hm]at hr;have c:gQ [69,d] t.kids=true:=hr;obtain⟨x,y,e,h1,h2⟩:=XJ d1 d2 c;rw[hk]at e;cases e;exact⟨⟨ha,.inr ⟨hm,h1⟩⟩,h2⟩
 ·rw[if_neg hm]at hr;have c:gQ [107,d] t.kids=true:=hr;obtain⟨x,y,e,h1,h2⟩:=XJ d1 d2 c;rw[hk]at e;cases e;exact⟨⟨ha,.inl ⟨(aFn hg.fl).elim id fun h=>absurd h hm,h1⟩⟩,h2⟩
theorem aB3{t:T}(h:t.op=39):eQ t=xI t:=by
 unfold eQ vL;simp[h]
theorem SF{t:T}(hg:Gt src t false)(g:t.op=39)(ih:∀k,k∈t.kids→Gt src k false→isT 69 k=true→Cov src k):CP' src t:=by
 have c:∀k∈t.kids,Gt src k false:=fun k hk=>hg.kid (by omega) hk;have j:=aB3 g;refine⟨g,hg.at',fun _ k hk _=>c k (by rw[hk];simp),fun h3 k l hk hw=>⟨c k (by rw[hk];simp),hg.pn.sh g h3 k (by rw[hk];rfl),fun d hd=>?_,?_⟩,fun h3 k l hk=>?_,fun o a b hk=>?_⟩
 ·have i:eQ t=⟨#[119]⟩:=by rw[j];unfold xI;simp[h3]
  obtain⟨x,e,-⟩:=RW (show gQ [119] t.kids=true from xZ hg.kd (by omega) i (by decide));rw[hk]at e;cases e;cases hd
 ·have hf:=hg.fl;rcases aFn hf with h|h
  ·exact h
  ·exfalso;unfold eF GM rY at hf;simp[h,g,h3]at hf
 ·have i:eQ t=⟨#[119]⟩:=by rw[j];unfold xI;simp[h3]
  obtain⟨x,e,h⟩:=RW (show gQ [119] t.kids=true from xZ hg.kd (by omega) i (by decide));rw[hk]at e;cases e;exact h
 ·have i:eQ t=xD t++⟨#[69]⟩:=by rw[j];unfold xI;simp[o]
  obtain⟨h1,h2⟩:=aFa hg g (by omega) (by decide) (by decide) i a b hk;exact⟨h1,ih b (by rw[hk];simp) (c b (by rw[hk];simp)) h2⟩
theorem aCp{t:T}(hg:Gt src t false)(c:isT 65 t=true)(ih:isT 69 t=true→Cov src t)(ih2:∀k,k∈t.kids→Gt src k false→isT 69 k=true→Cov src k):CI src t:=by
 by_cases b:t.op=40
 ·exact .inl ⟨b,hg⟩
 ·by_cases a:t.op=41
  ·have d:eQ t=⟨#[69]⟩:=by unfold eQ;simp[a]
   obtain⟨x,e,h⟩:=RW (show gQ [69] t.kids=true from xZ hg.kd (by omega) d (by decide));exact .inr (.inl ⟨x,a,e,hg.at',ih2 x (by rw[e];simp) (hg.kid (by omega) (by rw[e];simp)) h⟩)
  ·refine .inr (.inr ⟨b,a,ih ?_⟩);rw[aB7,decide_eq_false b,decide_eq_false a,gC,gC]at c;rw[EI];exact c
theorem zG : ∀(n:Nat) (t:T),t.size≤n→Gt src t false→isT 69 t=true→Cov src t
 |0,t,h,_,_=>by have:=DG t;omega
 | n + 1, t, hn,hg,r=>by
   have g:∀k∈t.kids,k.size≤n:=fun k hk=>by have:=rD hk;omega
   by_cases p:t.op=37
   ·have j:eQ t=⟨#[65,42]⟩:=by unfold eQ vL;simp[p]
    have hr:=RU (show gQ [65,42] t.kids=true from xZ hg.kd (by omega) j (by decide));exact TW p hg.at' fun k hk=>aCp (hg.kid (by omega) hk) (hr k hk) (zG n k (g k hk) (hg.kid (by omega) hk)) fun k' i=>zG n k' (by have:=rD i;have:=g k hk;omega)
   ·by_cases o:t.op=38
    ·have j:eQ t=⟨#[82,42]⟩:=by unfold eQ vL;simp[o]
     have hr:=RU (show gQ [82,42] t.kids=true from xZ hg.kd (by omega) j (by decide));refine SL o hg.at' fun k hk=>SF (hg.kid (by omega) hk) ?_ fun k' i=>zG n k' (by have:=rD i;have:=g k hk;omega);have l:isT 82 k=true:=hr k hk;rw[YZ,decide_eq_true_eq]at l;exact l
    ·intro N d may u he;cases N with
     |zero=>have:=DG t;omega
     | succ N=>
       unfold elF at he⊢;by_cases q:d>200
       ·rw[if_pos q]at he;cases he
       ·rw [if_neg q]at he⊢;by_cases hp:gJ t=true
        ·rw[if_pos hp];exact .inl ⟨hg,aE1 hp⟩
        ·rw [if_neg hp]at he⊢;by_cases c:t.op=46∧may=true∧t.s=⟨#[61]⟩∧t.kids.length=2
         ·rw [if_pos c]at he⊢;unfold nI at he⊢;by_cases h1:d+1>200
          ·rw[if_pos h1]at he;cases he
          ·rw[if_neg h1]at he⊢;split at he
           ·rename_i a b hk;by_cases h2:gJ a=true
            ·rw[if_pos h2];have j:eQ t=⟨#[84,69]⟩:=by unfold eQ vL;simp[c.1,c.2.2.1]
             obtain⟨x,y,e,h3,h4⟩:=XJ (by decide) (by decide) (show gQ [84,69] t.kids=true from xZ hg.kd (by omega) j (by decide));rw[hk]at e;cases e;exact .inr ⟨c.2.1,g63 hg.at' ⟨hg.kid (by omega) (by rw[hk];simp),h3⟩ ⟨hg.kid (by omega) (by rw[hk];simp),h4⟩⟩
            ·rw[if_neg h2]at he;cases he
           ·cases he
         ·rw[if_neg c,if_neg (by omega)]at he;cases he
theorem Gc.cov{t:T}(h:Gc src 69 t):Cov src t:=zG t.size t (aP _) h.1 h.2
theorem aBs{t:T}(h:Cov src t)(he:(xY t).2=0):Gc src 84 (xY t).1:=(h t.size 1 false (aP _) he).t
theorem aE0{t:T}(h:gJ t=false)(h1:t.op≠37)(h2:t.op≠38):(xY t).2≠0:=by
 unfold xY;obtain⟨n,hn⟩:∃n,t.size=n+1:=⟨t.size-1,by have:=DG t;omega⟩;rw[hn];unfold elF;rw[if_neg (by decide),if_neg (by rw[h];simp),if_neg (by simp),if_neg (by omega)];decide
theorem yM(t:T):t.size≤wtT t:=T.ind (p:=fun t=>t.size≤wtT t) (fun t ih=>by
 rw[T.size_eq,AO];have:(t.kids.map T.size).sum≤(t.kids.map wtT).sum:=by
  generalize t.kids=l at ih;induction l with
  |nil=>exact aP _
  | cons k l ih2=>
    rw[bE,bE,iB,iB];have h1:=ih k aA;have h2:=ih2 fun x a=>ih x (aS a);omega
 split<;>omega) t
theorem WJ{g:Nat→T}:∀(ks:List T) (o:Nat),(∀i k,ks[i]? =some k→wtT (g (o+i))≤wtT k)→(((List.range' o ks.length).map g).map wtT).sum≤(ks.map wtT).sum
 |[],o,_=>aP _
 | k::ks,o,h=>by
   rw[aF,List.range'_succ,bE,bE,bE,iB,iB];have a:=h 0 k rfl;have h1:=WJ ks (o+1) fun i k hk=>by have:=h (i+1) k (by simpa using hk);rwa[show o+1+i=o+ (i+1)by omega]
   rw[cM]at a;omega
theorem jZ{t:T}{e:Int}:wtT (kN e).1≤wtT t:=by
 have:=tF t;show wtT T.zero≤_
 rw[aAu];exact this
theorem RC{ks:List T}{i:Nat}{d:Int}{kid:T→TE}{t:T}(hi:ks[i]? =some t)(h:∀k,wtT (kid k).1≤wtT k):wtT (oJ ks i d kid).1≤wtT t:=by
 unfold oJ;split
 ·exact jZ
 ·rw [hi];dsimp only;split
  ·exact jZ
  ·split
   ·rename_i k hk;split
    ·exact jZ
    ·have:=h k;rw[kE,AO t,hk,cX,cX,jL];split<;>split<;>omega
   ·exact jZ
theorem WK{t k:T}(h:k∈t.kids):wtT k<wtT t:=by
 rw[AO t];have:=T.IL (List.mem_map.2 ⟨k,h,rfl⟩:wtT k∈t.kids.map wtT);split<;>omega
theorem aC5 : ∀ (N:Nat) (t:T) (d:Int) (may:Bool),wtT (elF N t d may).1≤wtT t
 |0,t,d,may=>jZ
 | N + 1, t, d, may=>by
   have ih:=aC5 N;unfold elF;split
   ·exact jZ
   ·split
    ·exact aP _
    ·split
     ·unfold nI;split
      ·exact jZ
      ·split
       ·rename_i a b hk;split
        ·rw[kE,AO t,hk,if_neg (by decide)];split<;>omega
        ·exact jZ
       ·exact jZ
     ·split
      ·dsimp only;split
       ·exact jZ
       ·have := WJ (g:=fun i=>(if t.op=37 then sY (elF N) t.kids i (d+1)else mY (elF N) t.kids i (d+1)).1) t.kids 0 (fun i k hk=>by
         rw[dT];split
         ·unfold sY;rw[hk];dsimp only;split
          ·exact RC hk fun _=>ih _ _ _
          ·split
           ·exact aP _
           ·exact ih _ _ _
         ·unfold mY;rw[hk];dsimp only;split
          ·refine RC hk fun x=>?_;unfold GZ;split
           ·exact jZ
           ·split
            ·exact aP _
            ·exact jZ
          ·split
           ·exact jZ
           ·split
            ·rename_i h;unfold nF;split
             ·rename_i x c;split
              ·exact jZ
              ·split
               ·exact jZ
               ·rw[kE,AO k,c,cX,cX,cX,jL,kE,if_neg (by decide),if_neg (by decide),if_pos h.1];show 1+ (wtT x+ (1+0+0))≤3+ (wtT x+0)
                omega
             ·rename_i x y c;split
              ·exact jZ
              ·split
               ·exact jZ
               ·rw[kE,AO k,c,if_neg (by decide),if_pos h.1];simp only[cX,jL,kE,show¬(63:Int)=39 by decide,show¬(34:Int)=39 by decide,if_false];omega
             ·exact jZ
            ·split
             ·exact jZ
             ·split
              ·rename_i a b c;split
               ·exact jZ
               ·have:=ih b (d+1+1) true;rw[kE,AO k,c];simp only[cX,jL];split<;>split<;>omega
              ·exact jZ)
        rw[←List.range_eq_range']at this;have h2:1≤(if t.op=39 then 3 else 1):=by split<;>omega
        rw[kE,AO t,if_neg (show¬(if t.op=37 then(60:Int)else 61)=39 by split<;>decide)];omega
      ·exact jZ
theorem aEz(t:T):wtT (xY t).1≤wtT t:=aC5 _ _ _ _
end
section
open Go.RowKit Go.Vcg
structure TOk (E:TkE) (src:ByteArray):Prop extends EOk E (src.size:Int) where
 nm:∀k,(tk E k).k=1→AtS src (tk E k).at' (tk E k).s
 fm:∀k,(tk E k).k=1∨(tk E k).k=2→iQ (tk E k).s=true
 nu:∀k,(tk E k).k=3→0≤(tk E k).n∧(tk E k).n≤9007199254740992
 sz:∀k,(tk E k).s.size≤4000
 tb:∀k,0≤(tk E k).to∧(tk E k).to≤src.size
 sm:src.size≤4000
structure In (E:TkE) (src:ByteArray) (s:RdS):Prop where
 lt:s.i<E.ts.length
 la:0≤s.la∧s.la≤src.size
 bg:s.bg≤s.i
abbrev wtL(l:List T):Nat:=(l.map wtT).sum
structure PA {α:Type} (E:TkE) (src:ByteArray) (s:RdS) (Q:α→RdS→Prop) (p:α×RdS):Prop where
 mv:Mv E (src.size:Int) s p.2
 ok:p.2.e=0→Q p.1 p.2
abbrev QX(src:ByteArray)(c k:Int)(s:RdS)(t:T)(s' :RdS):Prop:=(wtT t:Int)+30*s.i≤30*s'.i+k∧Gc src c t
abbrev Lit(src:ByteArray)(s:RdS)(t:T)(s' :RdS):Prop:=Cov src t∧(t.op=37∨t.op=38)∧Pl src t.at' ∧0≤lR s.i s'
def elR(E:TkE)(s:RdS):Bool:=isR E s ⟨#[44]⟩||isR E s ⟨#[93]⟩||isR E s ⟨#[125]⟩||isR E s ⟨#[41]⟩
abbrev StR(E:TkE)(s s' :RdS):Prop:=isR E s' ⟨#[61]⟩=true∨(s.bg=s.i∧s.as' =1∧elR E s' =true)∨(s.bg=s.i∧s.as' =2∧kJ E s' =true)
abbrev NoP(src:ByteArray)(t:T):Prop:=gJ t=false∧t.op≠37∧t.op≠38∧Pl src t.at'
abbrev QA(E:TkE)(src:ByteArray)(a:Int)(s:RdS)(t:T)(s' :RdS):Prop:=(wtT t:Int)+30*s.i≤30*s'.i-20∧(Gc src 69 t∨Lit src s t s' ∧(a=1∨a=2∧kJ E s' =true))
abbrev QC(E:TkE)(src:ByteArray)(s:RdS)(t:T)(s' :RdS):Prop:=(wtT t:Int)+30*s.i≤30*s'.i-20∧(Gc src 69 t∨Lit src s t s' ∧StR E s s' ∨isR E s' ⟨#[61]⟩=true∧NoP src t)
abbrev QF(E:TkE)(src:ByteArray)(s:RdS)(t:T)(s' :RdS):Prop:=(wtT t:Int)+30*s.i≤30*s'.i-25∧(Gc src 69 t∨isR E s' ⟨#[61]⟩=true∧NoP src t)
structure nB (E:TkE) (src:ByteArray) (n:Nat) (r:RdR):Prop where
 asg:∀b a s,In E src s→(a=2→b=false)→8*(E.ts.length-s.i)+5≤n→PA E src s (QA E src a s) (r.asg b a s)
 clb:∀b k x y s,In E src s→(s.bg=s.i→s.as' =2→b=false)→8*(E.ts.length-s.i)+4≤n→PA E src s (fun x s' =>QC E src s x.1 s') (r.clb b k x y s)
 una:∀s,In E src s→8*(E.ts.length-s.i)+3≤n→PA E src s (QC E src s) (r.una s)
 fre:∀s,In E src s→8*(E.ts.length-s.i)+2≤n→(aJ E s).k≠0→PA E src s (QF E src s) (r.fre s)
 stm:∀b s,In E src s→8*(E.ts.length-s.i)+6≤n→PA E src s (QX src 83 (-10) s) (r.stm b s)
 tar:∀s,In E src s→8*(E.ts.length-s.i)+5≤n→PA E src s (QX src 84 (-20) s) (r.tar s)
section
variable{α β:Type}{E:TkE}{src:ByteArray}{s s1 s2:RdS}{n:Nat}{r:RdR}
theorem PA.bd{p:α×RdS}{k:α→RdS→β×RdS}{Q1:α→RdS→Prop}{Q:β→RdS→Prop}(h:PA E src s1 Q1 p)(hm:Mv E (src.size:Int) s s1)
 (hk:∀a s2,Mv E (src.size:Int) s s2→Mv E (src.size:Int) s1 s2→s1.i≤s2.i→s2.i<E.ts.length→(s2.e=0→s1.e=0)→(s2.e=0→Q1 a s2)→PA E src s Q (k a s2)):PA E src s Q (_root_.Go.Proofs.YtknieidhopbngaaGreat.bd p k):=by
 obtain⟨a,s2⟩:=p;exact hk a s2 (hm.trans h.mv) h.mv h.mv.le h.mv.lt h.mv.ok h.ok
theorem PA.imp{p:α×RdS}{Q1 Q:α→RdS→Prop}(h:PA E src s Q1 p)(g:∀a s',Q1 a s' →Q a s'):PA E src s Q p:=⟨h.mv,fun e=>g _ _ (h.ok e)⟩
theorem Mv.inn(h:Mv E (src.size:Int) s s1)(hi:In E src s):In E src s1:=⟨h.lt,h.la hi.la,h.bgm hi.bg⟩
theorem mv0(hi:In E src s):Mv E (src.size:Int) s s:=.refl hi.lt
theorem bW(hE:TOk E src)(hm:Mv E (src.size:Int) s s1)(x:ByteArray):∃s2,eP E x s1=s2∧Mv E (src.size:Int) s s2∧s1.i≤s2.i∧s2.i<E.ts.length∧(s2.e=0→s1.e=0∧s2.i=s1.i+1∧s2.bg=s1.bg):=by
 have h:=(Mv.refl (E:=E) (L:=(src.size:Int)) hm.lt).aH2 hE.toEOk (x:=x);refine⟨_,rfl,hm.trans h,h.le,h.lt,fun e=>⟨h.ok e,aBz hE.toEOk e,?_⟩⟩;revert e;unfold eP;split
 ·intro _;unfold bJ;split<;>rfl
 ·intro e;exact absurd e AE
theorem aT(hE:TOk E src)(hm:Mv E (src.size:Int) s s1)(hk:(aJ E s1).k≠0):∃s2,bJ E s1=s2∧Mv E (src.size:Int) s s2∧s2.i=s1.i+1∧s2.i<E.ts.length∧s2.e=s1.e∧s2.bg=s1.bg:=
 ⟨_,rfl,hm.next,PG hE.toEOk hk,hm.next.lt,zX,by unfold bJ;split<;>rfl⟩
theorem DZ(hm:Mv E (src.size:Int) s s1):∃s2,bJ E s1=s2∧Mv E (src.size:Int) s s2∧s1.i≤s2.i∧s2.i<E.ts.length∧s2.e=s1.e:=⟨_,rfl,hm.next,CQ,hm.next.lt,zX⟩
theorem kV(hE:TOk E src)(hm:Mv E (src.size:Int) s s1):∃s2,iE E s1=s2∧Mv E (src.size:Int) s s2∧s1.i≤s2.i∧s2.i<E.ts.length∧s2.e≠0:=by
 have h:=(Mv.refl (E:=E) (L:=(src.size:Int)) hm.lt).fail hE.toEOk;exact⟨_,rfl,hm.trans h,h.le,h.lt,AE⟩
theorem kW(hE:TOk E src)(hm:Mv E (src.size:Int) s s1):∃s2,rJ E s1=s2∧Mv E (src.size:Int) s s2∧s1.i≤s2.i∧s2.i<E.ts.length∧(s2.e=0→s1.e=0):=by
 have h:=(Mv.refl (E:=E) (L:=(src.size:Int)) hm.lt).ends hE.toEOk;exact⟨_,rfl,hm.trans h,h.le,h.lt,h.ok⟩
theorem PA.ret{Q:α→RdS→Prop}{x:α}(hm:Mv E (src.size:Int) s s1)(h:s1.e=0→Q x s1):PA E src s Q (x,s1):=⟨hm,h⟩
theorem PA.bad{Q:α→RdS→Prop}{x:α}(hm:Mv E (src.size:Int) s s1)(h:s1.e≠0):PA E src s Q (x,s1):=⟨hm,fun e=>absurd e h⟩
theorem PA.failed{Q:α→RdS→Prop}{x:α}(hE:TOk E src)(hm:Mv E (src.size:Int) s s1):PA E src s Q (x,iE E s1):=⟨hm.fail hE.toEOk,fun e=>absurd e AE⟩
variable(hE:TOk E src)
include hE
theorem cQ(s:RdS):Pl src (aJ E s).at' :=hE.pos _
theorem oB(s:RdS):(aJ E s).s.size≤4000:=hE.sz _
variable(hr:nB E src n r)
include hr
omit hE in
theorem uK(b:Bool){s:RdS}(hi:In E src s)(hn:8*(E.ts.length-s.i)+5≤n):PA E src s (QX src 69 (-20) s) (r.asg b 0 s):=
 (hr.asg b 0 s hi (fun h=>absurd h (by decide)) hn).imp fun a s' h=>⟨h.1,h.2.elim id fun g=>g.2.elim (fun x=>by cases x) fun x=>by cases x.1⟩
theorem AI(b:Bool):∀(f:Nat) (acc:List T) (s:RdS),In E src s→8*(E.ts.length-s.i)≤n+3→(s.e=0→∀t∈acc,Gc src 69 t)→
 PA E src s (fun l s' =>(wtL l:Int)+30*s.i≤30*s'.i+wtL acc∧(∃m,l=acc++m)∧∀t∈l,Gc src 69 t) (pA E r b f acc s)
 |0,acc,s,hi,hn,ha=>.ret (mv0 hi) fun e=>⟨by omega,⟨[],(bP _).symm⟩,ha e⟩
 | f+1,acc,s,hi,hn,ha=>by
   have hl:=hi.lt;rw[pA];split
   ·rename_i h;obtain⟨s1,e1,m1,i1,t1,o1,-⟩:=aT hE (mv0 hi) (cY h.2);rw[e1];refine(uK hr b (m1.inn hi) (by omega)).bd m1 fun t s2 m2 n2 l2 t2 o2 q2=>?_;have h2:=AI b f (acc++[t]) s2 (m2.inn hi) (by omega) fun e=>k3 (ha h.1) (k1 (q2 e).2);refine⟨m2.trans h2.mv,fun e=>?_⟩;obtain⟨w3,⟨m,e3⟩,g3⟩:=h2.ok e;have q:=(q2 (h2.mv.ok e)).1;refine⟨?_,⟨t::m,by rw[e3,bR];rfl⟩,g3⟩;rw[show wtL (acc++[t])=wtL acc+wtT t by rw[wtL,zK,cX,jL];rfl]at w3;omega
   ·exact .ret (mv0 hi) fun e=>⟨by omega,⟨[],(bP _).symm⟩,ha e⟩
theorem FG(b:Bool)(t:T)(hi:In E src s)(hn:8*(E.ts.length-s.i)≤n+3)(ha:s.e=0→Gc src 69 t):
 PA E src s (fun t' s' =>(wtT t' :Int)+30*s.i≤30*s'.i+wtT t∧Gc src 69 t') (oC E r b t s):=by
 have hl:=hi.lt;unfold oC;split
 ·rename_i h;by_cases he:s.e=0
  ·rw[pA,if_pos ⟨he,h⟩];obtain⟨s1,e1,m1,i1,t1,o1,-⟩:=aT hE (mv0 hi) (cY h);rw[e1];have hb:∀(p:T×RdS) (k:T→RdS→List T×RdS) (k2:List T→RdS→T×RdS),bd (bd p k) k2=bd p fun a s=>bd (k a s) k2:=fun _ _ _=>rfl;rw[hb];refine(uK hr b (m1.inn hi) (by omega)).bd m1 fun u s2 m2 n2 l2 t2 o2 q2=>?_;refine(AI hE hr b _ _ s2 (m2.inn hi) (by omega) fun e=>k3 (k1 (ha he)) (k1 (q2 e).2)).bd m2 fun l s3 m3 n3 l3 t3 o3 q3=>.ret m3 fun e=>?_;obtain⟨w3,⟨m,rfl⟩,g3⟩:=q3 e;have q:=(q2 (o3 e)).1;have hg:=g48 (ha he).1.at' (g3 t (by simp)) (g3 u (by simp)) (ks:=m) fun k hk=>g3 k (by simp[hk]);refine⟨?_,hg⟩;have e4:wtL (([t]++[u])++m)=wtT t+ (wtT u+wtL m):=by simp only[wtL,zK,cX,jL];omega
   have e5:wtL ([t]++[u])=wtT t+wtT u:=by simp only[wtL,zK,cX,jL];omega
   rw[e4,e5]at w3;have e6:wtT (nd 48 t.at' (t::u::m))=1+ (wtT t+ (wtT u+wtL m)):=by rw[kE,cX,cX];rfl
   show(wtT (nd 48 t.at' (t::u::m)):Int)+_≤_
   omega
  ·refine(AI hE hr b _ _ s hi hn fun e=>absurd e he).bd (mv0 hi) fun l s3 m3 n3 l3 t3 o3 q3=>.bad m3 fun e=>he (o3 e)
 ·exact .ret (mv0 hi) fun e=>⟨by omega,ha e⟩
theorem iS(b:Bool)(hi:In E src s)(hn:8*(E.ts.length-s.i)+5≤n):PA E src s (QX src 69 (-20) s) (gN E r b s):=by
 unfold gN;refine(uK hr b hi hn).bd (mv0 hi) fun t s1 m1 n1 l1 t1 o1 q1=>?_;have h:=FG hE hr b t (m1.inn hi) (by omega) fun e=>(q1 e).2;refine⟨m1.trans h.mv,fun e=>?_⟩;have w:=(h.ok e).1;have q:=(q1 (h.mv.ok e)).1;exact⟨by omega,(h.ok e).2⟩
theorem SU(cs:Bool):∀(f:Nat) (acc:List T) (hd st:Bool) (s:RdS),In E src s→(s.e=0→8*(E.ts.length-s.i)+6≤n)→(s.e=0→∀t∈acc,Gc src 83 t)→
 PA E src s (fun x s' =>(wtL x.1:Int)+30*s.i≤30*s'.i+wtL acc∧∀t∈x.1,Gc src 83 t) (uQ E r cs f acc hd st s)
 |0,acc,hd,st,s,hi,hn,ha=>have _:=hE;.ret (mv0 hi) fun e=>⟨by dsimp only;omega,ha e⟩
 | f+1,acc,hd,st,s,hi,hn,ha=>by
   have hl:=hi.lt;rw[uQ];split
   ·rename_i h;have a:=hn h.1;refine(hr.stm true s hi a).bd (mv0 hi) fun t s2 m2 n2 l2 t2 o2 q2=>?_;dsimp only;have h2:=SU cs f (acc++[t]) (hd&&decide ((aJ E s).k=4∧t.op=8∧(t.kids.headD T.zero).op=31∧(t.kids.headD T.zero).at' =(aJ E s).at')) (st||((hd&&decide ((aJ E s).k=4∧t.op=8∧(t.kids.headD T.zero).op=31∧(t.kids.headD T.zero).at' =(aJ E s).at'))&&decide ((aJ E s).s=⟨#[117,115,101,32,115,116,114,105,99,116]⟩∧(aJ E s).to- (aJ E s).at' =12))) s2 (m2.inn hi) (fun e=>by omega) fun e=>k3 (ha h.1) (k1 (q2 e).2);refine⟨m2.trans h2.mv,fun e=>?_⟩;obtain⟨w3,g3⟩:=h2.ok e;have q:=(q2 (h2.mv.ok e)).1;refine⟨?_,g3⟩;rw[show wtL (acc++[t])=wtL acc+wtT t by rw[wtL,zK,cX,jL];rfl]at w3;omega
   ·exact .ret (mv0 hi) fun e=>⟨by dsimp only;omega,ha e⟩
theorem vO(cs:Bool)(hi:In E src s)(hn:s.e=0→8*(E.ts.length-s.i)+6≤n):PA E src s (fun x s' =>(wtL x.1:Int)+30*s.i≤30*s'.i∧∀t∈x.1,Gc src 83 t) (rC E r cs s):=
 (SU hE hr cs _ [] true false s hi hn fun _=>k0).imp fun x s' h=>⟨by have:=h.1;rw[show wtL ([]:List T)=0 from rfl]at this;omega,h.2⟩
theorem iT(hi:In E src s)(hn:8*(E.ts.length-s.i)≤n+2):PA E src s (fun x s' =>(wtT x.1:Int)+30*s.i≤30*s'.i-20∧Gt src x.1 false∧x.1.op=6) (hH E r s):=by
 unfold hH;obtain⟨s1,e1,m1,l1,t1,o1⟩:=bW hE (mv0 hi) ⟨#[123]⟩;rw[e1];refine(vO hE hr false (m1.inn hi) fun e=>by have:=o1 e;omega).bd m1 fun x s2 m2 n2 l2 t2 o2 q2=>?_;obtain⟨s3,e3,m3,l3,t3,o3⟩:=bW hE m2 ⟨#[125]⟩;rw[e3];refine .ret m3 fun e=>?_;obtain⟨e2,i3,-⟩:=o3 e;obtain⟨w,g⟩:=q2 e2;have:=o1 (o2 e2);refine⟨?_,g6 (cQ hE s) g,rfl⟩;have e6:wtT (nd 6 (aJ E s).at' x.1)=1+wtL x.1:=by rw[kE];rfl
 show(wtT (nd 6 (aJ E s).at' x.1):Int)+_≤_
 omega
theorem mP(hi:In E src s)(hn:8*(E.ts.length-s.i)+5≤n):PA E src s (QX src 70 (-20) s) (jJ E r s):=by
 have hl:=hi.lt;unfold jJ;refine(hr.tar s hi hn).bd (mv0 hi) fun t s1 m1 n1 l1 t1 o1 q1=>?_;split
 ·rename_i h;obtain⟨s2,e2,m2,i2,t2,o2,-⟩:=aT hE m1 (cY h);rw[e2];refine(uK hr true (m2.inn hi) (by omega)).bd m2 fun v s3 m3 n3 l3 t3 o3 q3=>.ret m3 fun e=>?_;obtain⟨w3,g3⟩:=q3 e;obtain⟨w1,g1⟩:=q1 (by rw[←o2];exact o3 e);refine⟨?_,g63 g1.1.at' g1 g3⟩;have e6:wtT (nd 63 t.at' [t,v])=1+ (wtT t+ (wtT v+0)):=by rw[kE,cX,cX,jL];rfl
  show(wtT (nd 63 t.at' [t,v]):Int)+_≤_
  omega
 ·exact .ret m1 fun e=>⟨(q1 e).1,(q1 e).2.1,aC0 (q1 e).2.2⟩
end
end
section
open Go.RowKit Go.Vcg
theorem aCm{x:ByteArray}(h:iQ x=true):x≠⟨#[]⟩:=fun e=>by
 subst e;unfold iQ at h;exact(TQ h).1 rfl
theorem VX{a m:Int}{ks:List T}(h:m∈([0,64,4,68,8,72,12,76,2,66,80,96,16,32,130]:List Int)):fnT (T.mk 4 a m 0 empty ks)=true:=by
 simp only[aV,bX,or_false]at h;rcases h with rfl|rfl|rfl|rfl|rfl|rfl|rfl|rfl|rfl|rfl|rfl|rfl|rfl|rfl|rfl
 all_goals rfl
theorem aHi{a m:Int}{x:ByteArray}{ks:List T}(hf:iQ x=true)(h:m∈([0,64,4,68,1,65,5,69]:List Int)):fnT (T.mk 4 a m 0 x ks)=true:=by
 have b:(decide (x≠⟨#[]⟩))=true:=decide_eq_true (aCm hf);simp only[aV,bX,or_false]at h;rcases h with rfl|rfl|rfl|rfl|rfl|rfl|rfl|rfl
 all_goals
  unfold fnT;rw[if_neg (show¬(_∨_∨_)from fun h=>by
   rcases h with h|h|⟨-,h⟩
   ·simp only[T.n]at h;omega
   ·simp only[T.n]at h;omega
   ·exact absurd (hf.symm.trans h) (by decide))]
  first|rfl|exact b
variable{src:ByteArray}
theorem aDs{a m:Int}{x:ByteArray}{ks:List T}(ha:0≤a)(h:fnT (T.mk 4 a m 0 x ks)=true):eF (T.mk 4 a m 0 x ks)=true:=by
 have hb:GM (T.mk 4 a m 0 x ks)=false:=by
  unfold GM;show(decide (a<0)||(decide ((0:Int)≠0)&&_))=false
  simp;omega
 unfold eF;rw[hb,if_neg (by simp),if_pos (show(T.mk 4 a m 0 x ks).op=4 from rfl)];exact h
theorem g4b{a m:Int}{x:ByteArray}{p k:T}(ha:Pl src a)(b:x.size≤4000)(h:fnT (T.mk 4 a m 0 x [p,k])=true)(hm:m≤127∧0≤m)(hp:Gc src 80 p)(hk:Gt src k false∧k.op=6):Gt src (T.mk 4 a m 0 x [p,k]) false:=by
 refine .of (t:=T.mk 4 a m 0 x [p,k]) (show(4:Int)≠53 by decide) (aDs ha.1 h) (fun h=>by simp[iD,T.op]at h) ?_ (xJ ha.2 (by decide) b (fun h=>absurd h (by decide)) (fun h=>absurd h (by decide))) (k2 hp.1 (k1 hk.1));have c:(IntKind.i64.wrap (m.tdiv 128)).tmod 2≠1:=by
  have:m.tdiv 128=0:=by rw[Int.tdiv_eq_ediv_of_nonneg hm.2];omega
  rw[this];decide
 rw[vD (t:=T.mk 4 a m 0 x [p,k]) (s:=⟨#[80,66]⟩) (show(4:Int)≠19 by decide) (show(4:Int)≠53 by decide) (show(4:Int)≠36 by decide) (by
  show(if(IntKind.i64.wrap (m.tdiv 128)).tmod 2=1 then(⟨#[80,69]⟩:ByteArray)else⟨#[80,66]⟩)=_
  rw[if_neg c]) (by decide)]
 exact lW (by decide) (by decide) hp.2 (nG (by show isT 66 k=true;rw[aG7,hk.2];rfl))
theorem g4e{a:Int}{p k:T}(ha:Pl src a)(hp:Gc src 80 p)(hk:Gc src 69 k):Gc src 69 (T.mk 4 a 130 0 empty [p,k]):=by
 refine⟨.of (t:=T.mk 4 a 130 0 empty [p,k]) (show(4:Int)≠53 by decide) (aDs ha.1 (VX (by simp))) (fun h=>by simp[iD,T.op]at h) ?_ (xJ ha.2 (by decide) (by decide) (fun h=>absurd h (by decide)) (fun h=>absurd h (by decide))) (k2 hp.1 (k1 hk.1)),by rw[EI];rfl⟩;rw[vD (t:=T.mk 4 a 130 0 empty [p,k]) (s:=⟨#[80,69]⟩) (show(4:Int)≠19 by decide) (show(4:Int)≠53 by decide) (show(4:Int)≠36 by decide) rfl (by decide)];exact lW (by decide) (by decide) hp.2 (nG hk.2)
theorem aFm{a m:Int}{x:ByteArray}{ks:List T}(h:m∈([0,64,4,68,2,66]:List Int)):isT 69 (T.mk 4 a m 0 x ks)=true:=by
 simp only[aV,bX,or_false]at h;rw[EI];rcases h with rfl|rfl|rfl|rfl|rfl|rfl
 all_goals rfl
theorem aIl{a m:Int}{x:ByteArray}{ks:List T}(h:m∈([1,65,5,69]:List Int)):isT 83 (T.mk 4 a m 0 x ks)=true:=by
 simp only[aV,bX,or_false]at h;rw[aFc];rcases h with rfl|rfl|rfl|rfl
 all_goals rfl
theorem aIk{a m:Int}{x:ByteArray}{ks:List T}(h:m∈([8,72,12,76]:List Int)):isT 109 (T.mk 4 a m 0 x ks)=true:=by
 simp only[aV,bX,or_false]at h;rw[aHa];rcases h with rfl|rfl|rfl|rfl
 all_goals rfl
abbrev FZ(src:ByteArray)(c:Int)(l:List T):Prop:=∃fs zs,l=fs++zs∧(∀k∈fs,Gc src c k)∧(zs=[]∨∃z,zs=[z]∧Gc src 90 z)
theorem FZ.all{c:Int}{l:List T}(h:∀k∈l,Gc src c k):FZ src c l:=⟨l,[],(bP _).symm,h,.inl rfl⟩
theorem FZ.one{c:Int}{l:List T}{z:T}(h:∀k∈l,Gc src c k)(g:Gc src 90 z):FZ src c (l++[z]):=⟨l,[z],rfl,h,.inr ⟨z,rfl,g⟩⟩
theorem mH(l:List T)(t:T):wtL (l++[t])=wtL l+wtT t:=by rw[wtL,zK,cX,jL];rfl
theorem mS(o a n m:Int)(x:ByteArray)(h:o≠39):wtT (T.mk o a n m x [])=1:=by rw[kE,if_neg h];rfl
theorem sA(o a n m:Int)(x:ByteArray)(t:T)(h:o≠39):wtT (T.mk o a n m x [t])=1+wtT t:=by rw[kE,if_neg h,cX,jL];omega
theorem uT(o a n m:Int)(x:ByteArray)(t u:T)(h:o≠39):wtT (T.mk o a n m x [t,u])=1+wtT t+wtT u:=by rw[kE,if_neg h,cX,cX,jL];omega
theorem WL(o a n m:Int)(x:ByteArray)(t u v:T)(h:o≠39):wtT (T.mk o a n m x [t,u,v])=1+wtT t+wtT u+wtT v:=by rw[kE,if_neg h,cX,cX,cX,jL];omega
theorem xA(o a n m:Int)(x:ByteArray)(l:List T)(h:o≠39):wtT (T.mk o a n m x l)=1+wtL l:=by rw[kE,if_neg h]
section
variable{E:TkE}{s:RdS}{n:Nat}{r:RdR}(hE:TOk E src)
include hE
theorem zY{g:RdS}(s:RdS)(h:mL g (aJ E s)=true):Gc src 84 (T.mk 34 (aJ E s).at' 0 0 (aJ E s).s [])∧isT 69 (T.mk 34 (aJ E s).at' 0 0 (aJ E s).s [])=true∧iQ (aJ E s).s=true∧AtS src (aJ E s).at' (aJ E s).s:=by
 have hk:(aJ E s).k=1:=by unfold mL at h;rw[aM,aM,decide_eq_true_eq]at h;exact h.1.1
 have hf:=hE.fm s.i (.inl hk);have hs:=hE.nm s.i hk;exact⟨⟨g34 (cQ hE s) (oB hE s) hf hs,by rw[JL];rfl⟩,by rw[EI];rfl,hf,hs⟩
theorem zO(s:RdS):Gc src 107 (T.mk 31 (aJ E s).at' 0 0 (aJ E s).s []):=⟨g31 (cQ hE s) (oB hE s),by rw[ZB];rfl⟩
omit hE in
theorem XA{t:Tok}(h:rQ t=true):t.k≠0:=by
 intro e;unfold rQ sgn at h;simp[e]at h
variable(hr:nB E src n r)
include hr
theorem zW:∀(f:Nat) (acc:List T) (s:RdS),In E src s→(s.e=0→8*(E.ts.length-s.i)+5≤n)→(s.e=0→∀t∈acc,Gc src 70 t)→
 PA E src s (fun l s' =>(wtL l:Int)+30*s.i≤30*s'.i+wtL acc∧FZ src 70 l) (pY E r f acc s)
 |0,acc,s,hi,hn,ha=>.ret (mv0 hi) fun e=>⟨by omega,.all (ha e)⟩
 | f +1,acc,s,hi,hn,ha=>by
   have hl:=hi.lt;rw[pY];split
   ·rename_i h;have a:=hn h.1;split
    ·rename_i h1;obtain⟨s1,e1,m1,i1,t1,o1,-⟩:=aT hE (mv0 hi) (cY h1);rw[e1];refine(hr.tar s1 (m1.inn hi) (by omega)).bd m1 fun t s2 m2 n2 l2 t2 o2 q2=>.ret m2 fun e=>?_;obtain⟨w,g⟩:=q2 e;refine⟨?_,.one (ha h.1) (g64 (cQ hE s) g)⟩;rw[mH,sA _ _ _ _ _ _ (by decide)];omega
    ·refine(mP hE hr hi (by omega)).bd (mv0 hi) fun t s1 m1 n1 l1 t1 o1 q1=>?_;split
     ·rename_i h2;obtain⟨s2,e2,m2,i2,t2,o2,-⟩:=aT hE m1 (cY h2);rw[e2];have h3:=zW f (acc++[t]) s2 (m2.inn hi) (fun e=>by omega) fun e=>k3 (ha h.1) (k1 (q1 (by omega)).2);refine⟨m2.trans h3.mv,fun e=>?_⟩;obtain⟨w3,g3⟩:=h3.ok e;have q:=(q1 (by have:=h3.mv.ok e;omega)).1;rw[mH]at w3;exact⟨by omega,g3⟩
     ·refine .ret m1 fun e=>?_;obtain⟨w,g⟩:=q1 e;refine⟨?_,.all (k3 (ha h.1) (k1 g))⟩;rw[mH];omega
   ·exact .ret (mv0 hi) fun e=>⟨by omega,.all (ha e)⟩
theorem yT(hi:In E src s)(hn:8*(E.ts.length-s.i)≤n+3):PA E src s (QX src 80 (-40) s) (lG E r s):=by
 have hl:=hi.lt;unfold lG;obtain⟨s1,e1,m1,l1,t1,o1⟩:=bW hE (mv0 hi) ⟨#[40]⟩;rw[e1];refine(zW hE hr _ [] s1 (m1.inn hi) (fun e=>by have:=o1 e;omega) fun _=>k0).bd m1 fun x s2 m2 n2 l2 t2 o2 q2=>?_;obtain⟨s3,e3,m3,l3,t3,o3⟩:=bW hE m2 ⟨#[41]⟩;rw[e3];refine .ret m3 fun e=>?_;obtain⟨e2,i3,-⟩:=o3 e;obtain⟨w,fs,zs,rfl,g1,g2⟩:=q2 e2;have:=o1 (o2 e2);refine⟨?_,g5 (cQ hE s) g1 g2⟩;rw[xA _ _ _ _ _ _ (by decide)];rw[show wtL ([]:List T)=0 from rfl]at w;omega
theorem mT(a bits:Int)(x:ByteArray)(hi:In E src s)(hn:8*(E.ts.length-s.i)≤n+2):
 PA E src s (fun t s' =>∃p k m,t=T.mk 4 a m 0 x [p,k]∧(m=bits∨m=bits+64)∧Gc src 80 p∧(Gt src k false∧k.op=6)∧(wtT t:Int)+30*s.i≤30*s'.i-50) (nL E r a bits x s):=by
 have hl:=hi.lt;unfold nL;refine(yT hE hr (s:={ s with gen:=decide (bits/4%2=1) }) ⟨hi.lt,hi.la,hi.bg⟩ (by show 8*(E.ts.length-s.i)≤n+3;omega)).bd (mv0 hi).gn fun p s1 m1 n1 l1 t1 o1 q1=>?_;have l1' :s.i≤s1.i:=l1;refine(iT hE hr (m1.inn hi) (by omega)).bd m1 fun k s2 m2 n2 l2 t2 o2 q2=>.ret m2.gn fun e=>?_;obtain⟨w2,g2⟩:=q2 e;obtain⟨w1,g1⟩:=q1 (o2 e);refine⟨p,k.1,_,rfl,?_,g1,g2,?_⟩
 ·split
  ·exact .inr rfl
  ·exact .inl rfl
 ·rw[uT _ _ _ _ _ _ _ (by decide)];have w1' :(wtT p:Int)+30*s.i≤30*s1.i+ -40:=w1;show _≤30*(s2.i:Int)-50
  omega
theorem uB(decl:Bool)(hi:In E src s)(hk:(aJ E s).k≠0)(hn:8*(E.ts.length-s.i)≤n+2):PA E src s (fun t s' =>(wtT t:Int)+30*s.i≤30*s'.i-50∧(decl=true→Gc src 83 t)∧(decl=false→Gc src 69 t)) (kC E r decl s):=by
 have hl:=hi.lt;unfold kC;obtain⟨s1,e1,m1,i1,t1,o1,-⟩:=aT hE (mv0 hi) hk;dsimp only;rw[e1];have m2:=m1.eat (x:=⟨#[42]⟩);have l2:s1.i≤(cH E ⟨#[42]⟩ s1).i:=by unfold cH;split;exact CQ;exact aP _
 generalize cH E ⟨#[42]⟩ s1=s2 at m2 l2;have hb:∃d:Int,(if isR E s1 ⟨#[42]⟩=true then(4:Int)else 0)=d∧(d=0∨d=4):=⟨_,rfl,by split;exact .inr rfl;exact .inl rfl⟩;obtain⟨d,ed,hd⟩:=hb;rw[ed];have t2:=m2.lt;split
 ·rename_i h;obtain⟨s3,e3,m3,i3,t3,o3,-⟩:=aT hE m2 (by omega);rw[e3];have hf:=hE.fm s2.i (.inl h.1);refine⟨m3.trans (mT hE hr _ _ _ (m3.inn hi) (by omega)).mv,fun e=>?_⟩;obtain⟨p,k,m,et,hm,gp,gk,w⟩:=(mT hE hr (aJ E s).at' ((if decl=true then 1 else 0)+d) (aJ E s2).s (m3.inn hi) (by omega)).ok e;rw[et]at w⊢;cases decl
  ·have a:m∈([0,64,4,68]:List Int):=by rcases hd with rfl|rfl<;>rcases hm with rfl|rfl<;>simp
   refine⟨by omega,fun h=>(by cases h),fun _=>⟨g4b (cQ hE s) (oB hE s2) (aHi hf ?_) ?_ gp gk,aFm ?_⟩⟩;all_goals simp only[aV,bX,or_false]at a⊢;omega
  ·have a:m∈([1,65,5,69]:List Int):=by rcases hd with rfl|rfl<;>rcases hm with rfl|rfl<;>simp
   refine⟨by omega,fun _=>⟨g4b (cQ hE s) (oB hE s2) (aHi hf ?_) ?_ gp gk,aIl a⟩,fun h=>(by cases h)⟩;all_goals simp only[aV,bX,or_false]at a⊢;omega
 ·cases decl
  ·refine⟨m2.trans (mT hE hr _ _ _ (m2.inn hi) (by omega)).mv,fun e=>?_⟩;obtain⟨p,k,m,et,hm,gp,gk,w⟩:=(mT hE hr (aJ E s).at' ((if false=true then 1 else 0)+d) empty (m2.inn hi) (by omega)).ok e;have et' :(nL E r (aJ E s).at' ((if false=true then 1 else 0)+d) empty (if false=true then iE E s2 else s2)).1=_:=et;rw[et]at w;have a:m∈([0,64,4,68]:List Int):=by rcases hd with rfl|rfl<;>rcases hm with rfl|rfl<;>simp
   have gg:Gc src 69 (T.mk 4 (aJ E s).at' m 0 empty [p,k]):=⟨g4b (cQ hE s) (by decide) (VX (by simp only[aV,bX,or_false]at a⊢;omega)) (by simp only[aV,bX,or_false]at a;omega) gp gk,aFm (by simp only[aV,bX,or_false]at a⊢;omega)⟩;refine⟨?_,fun h=>(by cases h),fun _=>?_⟩
   ·rw[et'];show _≤30*((nL E r (aJ E s).at' ((if false=true then 1 else 0)+d) empty s2).2.i:Int)-50
    omega
   ·rw[et'];exact gg
  ·obtain⟨s3,e3,m3,l3,t3,o3⟩:=kV hE m2;rw[if_pos rfl,e3];have h:=mT hE hr (aJ E s).at' ((if true=true then 1 else 0)+d) empty (m3.inn hi) (by omega);exact⟨m3.trans h.mv,fun e=>absurd (h.mv.ok e) o3⟩
theorem xL(hi:In E src s)(hn:8*(E.ts.length-s.i)≤n+3):PA E src s (fun x s' =>(wtT x.1:Int)+30*s.i≤30*s'.i-20∧Ky src (if x.2=true then 1 else 0) x.1) (uR E r s):=by
 have hl:=hi.lt;unfold uR;dsimp only;split
 ·rename_i h;obtain⟨s1,e1,m1,i1,t1,o1,-⟩:=aT hE (mv0 hi) (by omega);rw[e1];refine .ret m1 fun e=>⟨?_,g30 (cQ hE s) (hE.nu _ h),.inl ⟨rfl,by rw[ZB];rfl⟩⟩;dsimp only;rw[mS _ _ _ _ _ (by decide)];omega
 ·split
  ·rename_i h;obtain⟨s1,e1,m1,i1,t1,o1,-⟩:=aT hE (mv0 hi) (cY h);rw[e1];refine(uK hr true (m1.inn hi) (by omega)).bd m1 fun t s2 m2 n2 l2 t2 o2 q2=>?_;obtain⟨s3,e3,m3,l3,t3,o3⟩:=bW hE m2 ⟨#[93]⟩;rw[e3];refine .ret m3 fun e=>?_;have q3:=o3 e;obtain⟨w,g⟩:=q2 q3.1;exact⟨by dsimp only;omega,g.1,.inr ⟨rfl,g.2⟩⟩
  ·split
   ·rename_i h;obtain⟨s1,e1,m1,i1,t1,o1,-⟩:=aT hE (mv0 hi) (XA h);rw[e1];refine .ret m1 fun e=>⟨?_,(zO hE s).1,.inl ⟨rfl,(zO hE s).2⟩⟩;dsimp only;rw[mS _ _ _ _ _ (by decide)];omega
   ·exact .failed hE (mv0 hi)
theorem TF(hi:In E src s)(hn:8*(E.ts.length-s.i)+5≤n):PA E src s (QX src 81 (-15) s) (vU E r (aJ E s) s):=by
 have hl:=hi.lt;unfold vU;dsimp only;split
 ·rename_i h;obtain⟨g1,g2,g3,g4⟩:=zY hE s h.1;have gk:=zO hE s;obtain⟨s1,e1,m1,i1,t1,o1,-⟩:=aT hE (mv0 hi) (rI h.1);rw[e1];split
  ·rename_i h1;obtain⟨s2,e2,m2,i2,t2,o2,-⟩:=aT hE m1 (cY h1);rw[e2];refine(uK hr true (m2.inn hi) (by omega)).bd m2 fun v s3 m3 n3 l3 t3 o3 q3=>.ret m3 fun e=>?_;obtain⟨w,g⟩:=q3 e;refine⟨?_,g62 (cQ hE s) ⟨gk.1,.inl ⟨rfl,gk.2⟩⟩ (g63 (cQ hE s) g1 g)⟩;rw[uT _ _ _ _ _ _ _ (by decide),uT _ _ _ _ _ _ _ (by decide),mS _ _ _ _ _ (by decide),mS _ _ _ _ _ (by decide)];omega
  ·refine .ret m1 fun e=>⟨?_,g62 (cQ hE s) ⟨gk.1,.inl ⟨rfl,gk.2⟩⟩ ⟨g1.1,aC0 g1.2⟩⟩;rw[uT _ _ _ _ _ _ _ (by decide),mS _ _ _ _ _ (by decide),mS _ _ _ _ _ (by decide)];omega
 ·refine(xL hE hr hi (by omega)).bd (mv0 hi) fun k s1 m1 n1 l1 t1 o1 q1=>?_;obtain⟨s2,e2,m2,l2,t2,o2⟩:=bW hE m1 ⟨#[58]⟩;rw[e2];refine(mP hE hr (m2.inn hi) (by omega)).bd m2 fun v s3 m3 n3 l3 t3 o3 q3=>.ret m3 fun e=>?_;obtain⟨w3,g3⟩:=q3 e;have q2:=o2 (o3 e);obtain⟨w1,g1⟩:=q1 q2.1;refine⟨?_,g62 (cQ hE s) g1 g3⟩;rw[uT _ _ _ _ _ _ _ (by decide)];omega
theorem IB:∀(f:Nat) (acc:List T) (s:RdS),In E src s→(s.e=0→8*(E.ts.length-s.i)+5≤n)→(s.e=0→∀t∈acc,Gc src 81 t)→
 PA E src s (fun l s' =>(wtL l:Int)+30*s.i≤30*s'.i+wtL acc∧FZ src 81 l) (qE E r f acc s)
 |0,acc,s,hi,hn,ha=>.ret (mv0 hi) fun e=>⟨by omega,.all (ha e)⟩
 | f +1,acc,s,hi,hn,ha=>by
   have hl:=hi.lt;rw[qE];split
   ·rename_i h;have a:=hn h.1;split
    ·rename_i h1;obtain⟨s1,e1,m1,i1,t1,o1,-⟩:=aT hE (mv0 hi) (cY h1);dsimp only;rw[e1];split
     ·rename_i hf;obtain⟨g1,-⟩:=zY hE s1 hf;obtain⟨s2,e2,m2,i2,t2,o2,-⟩:=aT hE m1 (rI hf);rw[e2];refine .ret m2 fun e=>⟨?_,.one (ha h.1) (g64 (cQ hE s) g1)⟩;rw[mH,sA _ _ _ _ _ _ (by decide),mS _ _ _ _ _ (by decide)];omega
     ·obtain⟨s2,e2,m2,l2,t2,o2⟩:=kV hE m1;rw[e2];exact .bad m2.next (by rw[zX];exact o2)
    ·refine(TF hE hr hi (by omega)).bd (mv0 hi) fun t s1 m1 n1 l1 t1 o1 q1=>?_;split
     ·rename_i h2;obtain⟨s2,e2,m2,i2,t2,o2,-⟩:=aT hE m1 (cY h2);rw[e2];have h3:=IB f (acc++[t]) s2 (m2.inn hi) (fun e=>by omega) fun e=>k3 (ha h.1) (k1 (q1 (by omega)).2);refine⟨m2.trans h3.mv,fun e=>?_⟩;obtain⟨w3,g3⟩:=h3.ok e;have q:=(q1 (by have:=h3.mv.ok e;omega)).1;rw[mH]at w3;exact⟨by omega,g3⟩
     ·refine .ret m1 fun e=>?_;obtain⟨w,g⟩:=q1 e;refine⟨?_,.all (k3 (ha h.1) (k1 g))⟩;rw[mH];omega
   ·exact .ret (mv0 hi) fun e=>⟨by omega,.all (ha e)⟩
theorem OM:∀(f:Nat) (acc:List T) (s:RdS),In E src s→(s.e=0→8*(E.ts.length-s.i)+5≤n)→(s.e=0→∀t∈acc,Gc src 72 t)→
 PA E src s (fun l s' =>(wtL l:Int)+30*s.i≤30*s'.i+wtL acc∧FZ src 72 l) (FY E r f acc s)
 |0,acc,s,hi,hn,ha=>.ret (mv0 hi) fun e=>⟨by omega,.all (ha e)⟩
 | f + 1,acc,s,hi,hn,ha=>by
   have hl:=hi.lt;rw[FY];split
   ·rename_i h;have a:=hn h.1;split
    ·rename_i h1;obtain⟨s1,e1,m1,i1,t1,o1,-⟩:=aT hE (mv0 hi) (cY h1);rw[e1];have h3:=OM f (acc++[nd 40 (aJ E s).at' []]) s1 (m1.inn hi) (fun e=>by omega) fun e=>k3 (ha h.1) (k1 (g40 (cQ hE s)).2);refine⟨m1.trans h3.mv,fun e=>?_⟩;obtain⟨w3,g3⟩:=h3.ok e;rw[mH,mS _ _ _ _ _ (by decide)]at w3;exact⟨by omega,g3⟩
    ·split
     ·rename_i h1;obtain⟨s1,e1,m1,i1,t1,o1,-⟩:=aT hE (mv0 hi) (cY h1);rw[e1];refine(hr.tar s1 (m1.inn hi) (by omega)).bd m1 fun t s2 m2 n2 l2 t2 o2 q2=>.ret m2 fun e=>?_;obtain⟨w,g⟩:=q2 e;refine⟨?_,.one (ha h.1) (g64 (cQ hE s) g)⟩;rw[mH,sA _ _ _ _ _ _ (by decide)];omega
     ·refine(mP hE hr hi (by omega)).bd (mv0 hi) fun t s1 m1 n1 l1 t1 o1 q1=>?_;split
      ·rename_i h2;obtain⟨s2,e2,m2,i2,t2,o2,-⟩:=aT hE m1 (cY h2);rw[e2];have h3:=OM f (acc++[t]) s2 (m2.inn hi) (fun e=>by omega) fun e=>k3 (ha h.1) (k1 ⟨(q1 (by omega)).2.1,aFx (q1 (by omega)).2.2⟩);refine⟨m2.trans h3.mv,fun e=>?_⟩;obtain⟨w3,g3⟩:=h3.ok e;have q:=(q1 (by have:=h3.mv.ok e;omega)).1;rw[mH]at w3;exact⟨by omega,g3⟩
      ·refine .ret m1 fun e=>?_;obtain⟨w,g⟩:=q1 e;refine⟨?_,.all (k3 (ha h.1) (k1 ⟨g.1,aFx g.2⟩))⟩;rw[mH];omega
   ·exact .ret (mv0 hi) fun e=>⟨by omega,.all (ha e)⟩
theorem aGh(hi:In E src s)(hk:(aJ E s).k≠0)(hn:8*(E.ts.length-s.i)≤n+3):PA E src s (QX src 84 (-20) s) (OL E r s):=by
 have hl:=hi.lt;unfold OL;obtain⟨s1,e1,m1,i1,t1,o1,-⟩:=aT hE (mv0 hi) hk;rw[e1];refine(OM hE hr _ [] s1 (m1.inn hi) (fun e=>by omega) fun _=>k0).bd m1 fun x s2 m2 n2 l2 t2 o2 q2=>?_;obtain⟨s3,e3,m3,l3,t3,o3⟩:=bW hE m2 ⟨#[93]⟩;rw[e3];refine .ret m3 fun e=>?_;obtain⟨e2,i3,-⟩:=o3 e;obtain⟨w,fs,zs,rfl,g1,g2⟩:=q2 e2;refine⟨?_,g60 (cQ hE s) g1 g2⟩;rw[xA _ _ _ _ _ _ (by decide)];rw[show wtL ([]:List T)=0 from rfl]at w;omega
theorem ZY(hi:In E src s)(hk:(aJ E s).k≠0)(hn:8*(E.ts.length-s.i)≤n+3):PA E src s (QX src 84 (-20) s) (uC E r s):=by
 have hl:=hi.lt;unfold uC;obtain⟨s1,e1,m1,i1,t1,o1,-⟩:=aT hE (mv0 hi) hk;rw[e1];refine(IB hE hr _ [] s1 (m1.inn hi) (fun e=>by omega) fun _=>k0).bd m1 fun x s2 m2 n2 l2 t2 o2 q2=>?_;obtain⟨s3,e3,m3,l3,t3,o3⟩:=bW hE m2 ⟨#[125]⟩;rw[e3];refine .ret m3 fun e=>?_;obtain⟨e2,i3,-⟩:=o3 e;obtain⟨w,fs,zs,rfl,g1,g2⟩:=q2 e2;refine⟨?_,g61 (cQ hE s) g1 g2⟩;rw[xA _ _ _ _ _ _ (by decide)];rw[show wtL ([]:List T)=0 from rfl]at w;omega
theorem WX(hi:In E src s)(hn:8*(E.ts.length-s.i)≤n+3):PA E src s (QX src 84 (-20) s) (tL E r s):=by
 have hl:=hi.lt;unfold tL;dsimp only;split
 ·rename_i h;obtain⟨s1,e1,m1,i1,t1,o1,-⟩:=aT hE (mv0 hi) (rI h);rw[e1];refine .ret m1 fun e=>⟨?_,(zY hE s h).1⟩;rw[mS _ _ _ _ _ (by decide)];omega
 ·split
  ·rename_i h;exact aGh hE hr hi (cY h) hn
  ·split
   ·rename_i h;exact ZY hE hr hi (cY h) hn
   ·exact .failed hE (mv0 hi)
end
end
section
open Go.RowKit Go.Vcg
variable{src:ByteArray}
section
variable{E:TkE}{s s0:RdS}
abbrev Stp(E:TkE)(s:RdS):Prop:=isR E s ⟨#[61]⟩=true∨elR E s=true∨kJ E s=true
theorem mD{t:Tok}{x:ByteArray}:sgn t x=true↔t.k=5∧t.s=x:=by unfold sgn;rw[aM,decide_eq_true_eq,decide_eq_true_eq]
theorem WZ(h:Stp E s):((aJ E s).k=5∧((aJ E s).s=⟨#[61]⟩∨(aJ E s).s=⟨#[44]⟩∨(aJ E s).s=⟨#[93]⟩∨(aJ E s).s=⟨#[125]⟩∨(aJ E s).s=⟨#[41]⟩))∨((aJ E s).k=1∧(aJ E s).s=⟨#[111,102]⟩)∨((aJ E s).k=2∧(aJ E s).s=⟨#[105,110]⟩):=by
 rcases h with h|h|h
 ·exact .inl ⟨(mD.1 h).1,.inl (mD.1 h).2⟩
 ·unfold elR isR at h;simp only[aY,mD]at h;rcases h with((h|h)|h)|h
  ·exact .inl ⟨h.1,.inr (.inl h.2)⟩
  ·exact .inl ⟨h.1,.inr (.inr (.inl h.2))⟩
  ·exact .inl ⟨h.1,.inr (.inr (.inr (.inl h.2)))⟩
  ·exact .inl ⟨h.1,.inr (.inr (.inr (.inr h.2)))⟩
 ·unfold kJ mZ cP at h;simp only[aY,aM,decide_eq_true_eq]at h;rcases h with h|⟨h1,h2|h2⟩
  ·exact .inr (.inl h)
  ·exact .inr (.inr ⟨h2,h1⟩)
  ·exact absurd h2.2 (by decide)
theorem pQ{x:ByteArray}(h:Stp E s)(b:(decide (x≠⟨#[61]⟩)&&decide (x≠⟨#[44]⟩)&&decide (x≠⟨#[93]⟩)&&decide (x≠⟨#[125]⟩)&&decide (x≠⟨#[41]⟩))=true):isR E s x=false:=by
 simp only[aM,decide_eq_true_eq]at b;cases hb:isR E s x with
 |false=>rfl
 | true=>
   obtain⟨h1,h2⟩:=mD.1 hb;have c:(aJ E s).k=5:=h1;have a:(aJ E s).s=x:=h2;rcases WZ h with⟨-,h|h|h|h|h⟩|⟨h,-⟩|⟨h,-⟩
   ·exact absurd (a.symm.trans h) b.1.1.1.1
   ·exact absurd (a.symm.trans h) b.1.1.1.2
   ·exact absurd (a.symm.trans h) b.1.1.2
   ·exact absurd (a.symm.trans h) b.1.2
   ·exact absurd (a.symm.trans h) b.2
   ·omega
   ·omega
theorem aDb(h:Stp E s):(aJ E s).k≠6∧(aJ E s).k≠0:=by
 rcases WZ h with⟨h,-⟩|⟨h,-⟩|⟨h,-⟩<;>omega
theorem eq_not(h:isR E s ⟨#[61]⟩=true):elR E s=false∧kJ E s=false:=by
 obtain⟨h1,h2⟩:=mD.1 h;have b:(aJ E s).k=5:=h1;have a:(aJ E s).s=⟨#[61]⟩:=h2;constructor
 ·unfold elR isR sgn;simp only[a,b];decide
 ·unfold kJ mZ cP;simp only[a,b];decide
theorem II{x:ByteArray}(h:(aJ E s).s≠x):cP E s x=false:=by unfold cP;rw[decide_eq_false h,gP]
theorem KP{b:Bool}(h:Stp E s)(hb:kJ E s=true→b=false):eI E b s=0:=by
 unfold eI;rcases WZ h with⟨h1,h2⟩|⟨h1,h2⟩|⟨h1,h2⟩
 ·rw[if_neg (fun g=>g.1 h1)];rcases h2 with h2|h2|h2|h2|h2<;>rw[h2]<;>decide
 ·rw[if_pos];exact⟨by omega,II (by rw[h2];decide),by rw[II (x:=⟨#[105,110]⟩) (by rw[h2];decide),fV]⟩
 ·have he:kJ E s=true:=by unfold kJ cP;rw[h2,h1];simp
  rw[hb he,if_pos];exact⟨by omega,II (by rw[h2];decide),gP _⟩
theorem BZ{s1:RdS}(h:StR E s s1):Stp E s1:=h.elim .inl fun h=>h.elim (fun h=>.inr (.inl h.2.2)) fun h=>.inr (.inr h.2.2)
theorem WY{s1:RdS}{b:Bool}(h:StR E s s1)(hb:s.bg=s.i→s.as' =2→b=false)(he:kJ E s1=true):b=false:=by
 rcases h with h|⟨-,-,h⟩|⟨h1,h2,-⟩
 ·rw[(eq_not h).2]at he;cases he
 ·exfalso;unfold elR isR at h;simp only[aY,mD]at h;have hk:(aJ E s1).k=5:=by unfold aJ at h⊢;omega
  have:=PZ he;unfold kJ mZ cP at he;simp only[aY,aM,decide_eq_true_eq]at he;omega
 ·exact hb h1 h2
theorem XQ{b:Bool}(h:eI E b s≠0):(aJ E s).k≠0:=by
 intro e;unfold eI at h;rw[if_pos]at h
 ·exact h rfl
 ·refine⟨by omega,?_,?_⟩
  ·cases hw:cP E s ⟨#[105,110,115,116,97,110,99,101,111,102]⟩with
   |false=>rfl
   |true=>exact absurd e (eC hw)
  ·cases hw:cP E s ⟨#[105,110]⟩with
   |false=>rw[fV]
   |true=>exact absurd e (eC hw)
theorem aEs(x:ByteArray):vF x=0∨(vF x≤3∧lX x wJ=true)∨(3<vF x∧lX x yJ=true):=by
 unfold vF;by_cases d:x=⟨#[63,63]⟩
 ·rw[if_pos d];exact .inr (.inl ⟨by decide,by rw[d];decide⟩)
 rw[if_neg d];by_cases h1:x=⟨#[124,124]⟩
 ·rw[if_pos h1];exact .inr (.inl ⟨by decide,by rw[h1];decide⟩)
 rw[if_neg h1];by_cases h2:x=⟨#[38,38]⟩
 ·rw[if_pos h2];exact .inr (.inl ⟨by decide,by rw[h2];decide⟩)
 rw[if_neg h2];by_cases h3:x=⟨#[124]⟩
 ·rw[if_pos h3];exact .inr (.inr ⟨by decide,by rw[h3];decide⟩)
 rw[if_neg h3];by_cases h4:x=⟨#[94]⟩
 ·rw[if_pos h4];exact .inr (.inr ⟨by decide,by rw[h4];decide⟩)
 rw[if_neg h4];by_cases h5:x=⟨#[38]⟩
 ·rw[if_pos h5];exact .inr (.inr ⟨by decide,by rw[h5];decide⟩)
 rw[if_neg h5];by_cases h6:x=⟨#[61,61]⟩∨x=⟨#[33,61]⟩∨x=⟨#[61,61,61]⟩∨x=⟨#[33,61,61]⟩
 ·rw[if_pos h6];exact .inr (.inr ⟨by decide,by rcases h6 with rfl|rfl|rfl|rfl<;>decide⟩)
 rw[if_neg h6];by_cases c:x=⟨#[60]⟩∨x=⟨#[62]⟩∨x=⟨#[60,61]⟩∨x=⟨#[62,61]⟩∨x=⟨#[105,110,115,116,97,110,99,101,111,102]⟩∨x=⟨#[105,110]⟩
 ·rw[if_pos c];exact .inr (.inr ⟨by decide,by rcases c with rfl|rfl|rfl|rfl|rfl|rfl<;>decide⟩)
 rw[if_neg c];by_cases h8:x=⟨#[60,60]⟩∨x=⟨#[62,62]⟩
 ·rw[if_pos h8];exact .inr (.inr ⟨by decide,by rcases h8 with rfl|rfl<;>decide⟩)
 rw[if_neg h8];by_cases b:x=⟨#[43]⟩∨x=⟨#[45]⟩
 ·rw[if_pos b];exact .inr (.inr ⟨by decide,by rcases b with rfl|rfl<;>decide⟩)
 rw[if_neg b];by_cases a:x=⟨#[42]⟩∨x=⟨#[47]⟩∨x=⟨#[37]⟩
 ·rw[if_pos a];exact .inr (.inr ⟨by decide,by rcases a with rfl|rfl|rfl<;>decide⟩)
 rw[if_neg a];exact .inl rfl
end
end
end Go.Proofs.YtknieidhopbngaaGreat
