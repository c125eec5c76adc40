/- The law of package read: Dump of the first example's tree, awake. -/
import Derived.Test.YtknieidhopbngaaGreatQay
set_option maxRecDepth 20000
set_option maxHeartbeats 2000000
namespace Go.Proofs.YtknieidhopbngaaGreat
open Go.RowKit Go.Vcg
attribute [local irreducible] xN qZ G GC GQ GA dV Calls IntKind.wrap Int.decLt Int.decLe
theorem WA(w:World)(μ:Mem)(hμ:MOk μ w):aO 37 #[.int .i64 1] w (.string ⟨#[49]⟩):=by
 refine aQ Tryz.func37 rfl Tryz.ntmps37 (by simp) hμ ?_;try repeat' (first|refine KO ?_|(refine KV (b:=by((with_reducible apply AS 1 2 (b' :=⟨#[49]⟩) (by kernel_rfl));(iterate 6 exact rfl);decide;decide)) (c:=?_))|refine KZ ?_)
 all_goals exact bL rfl rfl rfl
theorem OQ(w:World)(μ:Mem)(hμ:MOk μ w):aO 18 #[.int .i64 1] w (.string ⟨#[49]⟩):=by
 refine aQ Tryz.func18 rfl Tryz.ntmps18 (by simp) hμ ?_;try repeat' (first|refine KO ?_|refine K2 37 (fun w μc hw a=>WA w μc hw) ?_)
 all_goals exact bL rfl rfl rfl
theorem MA(w:World)(μ:Mem)(hμ:MOk μ w):aO 17 #[.int .i64 34] w (.string ⟨#[78,97,109,101]⟩):=by
 have h:=xU 34 (by omega) w μ hμ;rwa[show(⟨(AZ 34).toArray⟩:ByteArray)=⟨#[78,97,109,101]⟩by kernel_rfl]at h
theorem MB(w:World)(μ:Mem)(hμ:MOk μ w):aO 17 #[.int .i64 30] w (.string ⟨#[78,117,109]⟩):=by
 have h:=xU 30 (by omega) w μ hμ;rwa[show(⟨(AZ 30).toArray⟩:ByteArray)=⟨#[78,117,109]⟩by kernel_rfl]at h
theorem LZ(w:World)(μ:Mem)(hμ:MOk μ w):aO 17 #[.int .i64 44] w (.string ⟨#[66,105,110,97,114,121]⟩):=by
 have h:=xU 44 (by omega) w μ hμ;rwa[show(⟨(AZ 44).toArray⟩:ByteArray)=⟨#[66,105,110,97,114,121]⟩by kernel_rfl]at h
theorem WE(w:World)(μ:Mem)(hμ:MOk μ w):aO 19 #[.string ⟨#[120]⟩] w (.string ⟨#[120]⟩):=by
 have h:=FH ⟨#[120]⟩ (by decide) w μ hμ;rwa[show(⟨(BY (bl ⟨#[120]⟩)).toArray⟩:ByteArray)=⟨#[120]⟩by kernel_rfl]at h
theorem WD(w:World)(μ:Mem)(hμ:MOk μ w):aO 19 #[.string ⟨#[43]⟩] w (.string ⟨#[37,50,66]⟩):=by
 have h:=FH ⟨#[43]⟩ (by decide) w μ hμ;rwa[show(⟨(BY (bl ⟨#[43]⟩)).toArray⟩:ByteArray)=⟨#[37,50,66]⟩by kernel_rfl]at h
theorem ND(u:Value)(w:World)(μ:Mem)(hμ:MOk μ w)(hk:KR μ [] u):aO 10 #[.agg (dG (T.mk 34 0 0 0 ⟨#[120]⟩ []) u).toArray] w (.string ⟨#[40,78,97,109,101,32,61,120,41]⟩):=by
 obtain⟨A,c,rfl,-,-⟩:=hk.form;refine aQ Tryz.func10 rfl Tryz.ntmps10 (by simp) hμ ?_;try repeat' (first|(with_reducible apply dP 2)|refine KO ?_|refine K2 17 (fun w μc hw a=>MA w μc hw) ?_|refine K2 19 (fun w μc hw a=>WE w μc hw) ?_|(refine KV (b:=by((with_reducible apply iG);exact rfl;exact rfl;decide+kernel)) (c:=?_))|refine KZ ?_|refine NB fun b=>?_)
 all_goals exact bL rfl rfl (by kernel_rfl)
theorem NE(u:Value)(w:World)(μ:Mem)(hμ:MOk μ w)(hk:KR μ [] u):aO 10 #[.agg (dG (T.mk 30 4 1 0 empty []) u).toArray] w (.string ⟨#[40,78,117,109,32,49,41]⟩):=by
 obtain⟨A,c,rfl,-,-⟩:=hk.form;refine aQ Tryz.func10 rfl Tryz.ntmps10 (by simp) hμ ?_;try repeat' (first|(with_reducible apply dP 2)|refine KO ?_|refine K2 17 (fun w μc hw a=>MB w μc hw) ?_|refine K2 18 (fun w μc hw a=>OQ w μc hw) ?_|(refine KV (b:=by((with_reducible apply iG);exact rfl;exact rfl;decide+kernel)) (c:=?_))|refine KZ ?_|refine NB fun b=>?_)
 all_goals exact bL rfl rfl (by kernel_rfl)
theorem NC(u:Value)(w:World)(μ:Mem)(hμ:MOk μ w)(hk:KR μ [T.mk 34 0 0 0 ⟨#[120]⟩ [],T.mk 30 4 1 0 empty []] u):aO 10 #[.agg (dG (T.mk 44 0 0 0 ⟨#[43]⟩ [T.mk 34 0 0 0 ⟨#[120]⟩ [],T.mk 30 4 1 0 empty []]) u).toArray] w (.string ⟨#[40,66,105,110,97,114,121,32,61,37,50,66,32,40,78,97,109,101,32,61,120,41,32,40,78,117,109,32,49,41,41]⟩):=by
 obtain⟨A,c,rfl,hc,d⟩:=hk.form;obtain⟨ad,x0,rfl,j,l,h⟩:=d 0 _ rfl;obtain⟨ad1,x1,e1,i,k,g⟩:=d 1 _ rfl;cases e1;refine aQ Tryz.func10 rfl Tryz.ntmps10 (by simp) hμ ?_;try repeat' (first|((with_reducible apply dP 4))|(with_reducible apply fO)|refine KO ?_|refine K2 17 (fun w μc hw a=>LZ w μc hw) ?_|refine K2 19 (fun w μc hw a=>WD w μc hw) ?_|((with_reducible apply F1 10);exact rfl;exact EN;(first|exact fun w μc hw a=>ND _ w μc hw (h.mono a.le)|exact fun w μc hw a=>NE _ w μc hw (g.mono a.le)))|(refine KV (b:=by first|exact U1 0|exact U1 1|exact U4 j|exact U4 i|((with_reducible apply iG);exact rfl;exact rfl;decide+kernel)) (c:=?_))|refine KZ ?_|refine NB fun b=>?_)
 all_goals exact bL rfl rfl (by kernel_rfl)
end Go.Proofs.YtknieidhopbngaaGreat
namespace Go.Vcg
open Go.RowKit
section
variable{P:Program}{μ:Mem}{l:bG}{L:List Bk}{ds:Option Nat}{ty:TypeId}{pos:String}{af:Array Edge}{gd:Option (Nat×Bool)}
theorem GN{p q:Operand}{t:TypeId}{b b' :ByteArray}{j:Int}(k:Nat)(he:b.extract 0 k=b')(ht:P.underlying t=some .string)(a:ev l p=some (.string b))(c:ev l q=some (.int .i64 j))(d:j=(k:Int))(hk:k≤b.size):
 Val P μ l L ⟨ds,.slice t p none (some q) none,ty,pos,af,gd⟩ (.string b'):=by
 rw[←he];exact KH k ht a c d hk
end
end Go.Vcg
namespace Go.Proofs.YtknieidhopbngaaGreat
open Go.RowKit Go.Vcg
theorem PB{x:ByteArray}(g:x.size≤3000):((qZ x).2.2≠0→(qZ x).1=T.zero∧Pl x (qZ x).2.1)∧((qZ x).2.2=0→(qZ x).2.1=0∧(qZ x).1.op=1∧Gt x (qZ x).1 false∧(qZ x).1.depth≤200∧(qZ x).1.size≤100000):=by
 obtain⟨g1,g2⟩:=QU (show x.size≤4000 by omega);unfold qZ;by_cases h:(mW (bl x)).2.2≠0
 ·rw[if_pos h];exact⟨fun _=>⟨rfl,by show(0:Int)≤((mW (bl x)).2.1:Int);omega,by have:=g2 h;show((mW (bl x)).2.1:Int)≤x.size;omega⟩,fun e=>absurd e h⟩
 ·rw[if_neg h];obtain⟨h1,h2⟩:=g1 (Decidable.not_not.1 h);obtain⟨p1,p2⟩:=UW (DB (by omega) h1) (by omega);exact⟨p1,fun e=>by obtain⟨a,b,c,d,f⟩:=p2 e;exact⟨a,b,c,by rw[←JU];exact d,f⟩⟩
attribute [local irreducible] xN qZ G GC GQ GA dV Calls IntKind.wrap Int.decLt Int.decLe
theorem aIr(w:World)(μ:Mem)(hμ:MOk μ w)(a:lE μ):Calls Tryz.prog 9 #[.string ⟨#[120,32,43,32,49]⟩] w fun e w' =>∃v μ',e=.returned v∧oH w w' μ μ' ∧TR3 μ' (tr1,0,0) v:=ex1▸CG ⟨#[120,32,43,32,49]⟩ (by decide) w μ hμ a
theorem aIq(w:World)(μ:Mem)(hμ:MOk μ w)(a:lE μ):Calls Tryz.prog 9 #[.string ⟨#[97,32,63,63,32,98,32,124,124,32,99]⟩] w fun e w' =>∃v μ',e=.returned v∧oH w w' μ μ' ∧TR3 μ' (T.zero,7,23) v:=ex2▸CG ⟨#[97,32,63,63,32,98,32,124,124,32,99]⟩ (by decide) w μ hμ a
theorem aIp(w:World)(μ:Mem)(hμ:MOk μ w)(a:lE μ):Calls Tryz.prog 9 #[.string ⟨#[91,97,44,32,49,93,32,61,32,99]⟩] w fun e w' =>∃v μ',e=.returned v∧oH w w' μ μ' ∧TR3 μ' (T.zero,0,24) v:=ex3▸CG X3 (by decide) w μ hμ a
theorem aIo(w:World)(μ:Mem)(hμ:MOk μ w)(a:lE μ):Calls Tryz.prog 9 #[.string ⟨#[40,123,97,32,61,32,49,125,41]⟩] w fun e w' =>∃v μ',e=.returned v∧oH w w' μ μ' ∧TR3 μ' (T.zero,4,23) v:=ex4▸CG ⟨#[40,123,97,32,61,32,49,125,41]⟩ (by decide) w μ hμ a
theorem FO(w:World)(μ:Mem)(hμ:MOk μ w)(c:lE μ):aO 4 #[] w (.bool true):=by
 refine aQ Tryz.func4 rfl Tryz.ntmps4 (by simp) hμ ?_;try repeat' (first|refine KO ?_|refine K2 10 (fun w μc hw j=>NC _ w μc hw (a.mono j)) ?_|refine KZ ?_|((with_reducible apply F2 9);exact rfl;exact EN;exact fun w hw=>aIr w _ hw c;rintro v1 μ1 i ⟨u1,rfl,a⟩;have o_u1:=a.one;have c:=c.mono i)|((with_reducible apply F2 9);exact rfl;exact EN;exact fun w hw=>aIq w _ hw c;rintro v2 μ2 h ⟨u2,rfl,o⟩;have o_u2:=o.one;have c:=c.mono h;have a:=a.mono h)|((with_reducible apply F2 9);exact rfl;exact EN;exact fun w hw=>aIp w _ hw c;rintro v3 μ3 g ⟨u3,rfl,l⟩;have o_u3:=l.one;have c:=c.mono g;have a:=a.mono g)|((with_reducible apply F2 9);exact rfl;exact EN;exact fun w hw=>aIo w _ hw c;rintro v4 μ4 d ⟨u4,rfl,k⟩;have o_u4:=k.one;have c:=c.mono d;have a:=a.mono d)|refine NB fun b=>?_)
 all_goals exact bL rfl rfl rfl
theorem ON(w:World)(μ:Mem)(hμ:MOk μ w)(l:lE μ)(s:ByteArray)(v:s.size≤9223372036854775807):
 aO 3 #[.string s] w (.bool true):=by
 generalize j:s.extract 0 (min s.size 3000)=x;have h:x.size≤3000:=by rw[←j,cK];omega
 have r:(x.size:Int)≤3000:=by omega
 obtain⟨f1,f2⟩:=PB h;have hp:=fun(w:World) (μ9:Mem) (hw:MOk μ9 w) (h9:MLe μ μ9)=>OV x h w μ9 hw (l.mono h9);generalize qZ x=q at f1 f2 hp;obtain⟨t,a,e⟩:=q;dsimp only at f1 f2 hp;refine aQ Tryz.func3 rfl Tryz.ntmps3 (by simp) hμ ?_;by_cases he:e≠0
 ·obtain⟨rfl,aa,z⟩:=f1 he;try repeat' (first|refine KO ?_|refine K2 4 (fun w μc hw d=>FO w μc hw (l.mono d)) ?_|((with_reducible apply F2 5);exact rfl;exact EN;exact fun w hw=>hp w _ hw ML;rintro v1 μ1 i ⟨u1,rfl,g⟩;have o_u1:=g.one)|refine K2 6 (fun w μc hw d=>MV _ w μc hw (g.mono d)) ?_|(refine KV (b:=by((with_reducible apply GN (min s.size 3000) j);(iterate 3 exact rfl);omega;omega)) (c:=?_))|refine KZ ?_|refine NB fun b=>?_)
  all_goals try(exfalso;omega)
  all_goals exact bL rfl rfl rfl
 ·have k:e=0:=Decidable.not_not.1 he;obtain⟨rfl,y,hg,hd,o⟩:=f2 k;have p:=fun(u:Value) (w:World) (μ9:Mem) (hw:MOk μ9 w) (hk:KR μ9 t.kids u)=>LH t u w μ9 hw hk o hg.sh;rw[decide_eq_true hd,aDi hg.ra,eJ]at p;try repeat' (first|refine KO ?_|refine K2 4 (fun w μc hw d=>FO w μc hw (l.mono d)) ?_|((with_reducible apply F2 5);exact rfl;exact EN;exact fun w hw=>hp w _ hw ML;rintro v1 μ1 i ⟨u1,rfl,g⟩;have o_u1:=g.one)|refine K2 7 (fun w μc hw d=>p _ w μc hw (g.mono d)) ?_|refine K2 8 (fun w μc hw d=>LU (by omega) 100000 (aP _) t _ false w μc hw (g.mono d) o hg) ?_|(refine KV (b:=by((with_reducible apply GN (min s.size 3000) j);(iterate 3 exact rfl);omega;omega)) (c:=?_))|refine KZ ?_|refine NB fun b=>?_)
  all_goals try(exfalso;omega)
  all_goals exact bL rfl rfl rfl
end Go.Proofs.YtknieidhopbngaaGreat
