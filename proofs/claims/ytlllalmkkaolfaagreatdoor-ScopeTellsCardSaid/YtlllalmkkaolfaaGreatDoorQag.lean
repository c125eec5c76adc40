/- tree.statements. -/
import Derived.Test.YtlllalmkkaolfaaGreatDoorQaf
set_option maxRecDepth 20000
set_option maxHeartbeats 2000000
namespace Go.Proofs.YtlllalmkkaolfaaGreatDoor
section
open Go.RowKit Go.Vcg
attribute [local irreducible] dK iS G GC GQ GA eN Calls IntKind.wrap Int.decLt Int.decLe
theorem aHw (t : T) (u : Value) (w : World) (μ : Mem) (hμ : MOk μ w) (hk : KR μ t.kids u) (hs : t.size ≤ 100000) (g : ∀ k ∈ t.kids, T.size k ≤ 100000 ∧ k.s.size ≤ 65536) (j : t.op = 1 ∨ t.op = 6) :
 aV 80 #[.agg (aY t u).toArray] w (.bool (iS fJ 0 (-1) t.kids)) := by
 have ho := hk.one
 obtain ⟨A, c, rfl, l, -⟩ := hk.form
 have hlen := eL t
 refine aE (args := [.agg (aY t (.slice A t.kids.length c)).toArray]) Tryz.func80 rfl Tryz.ntmps80 (by simp) hμ ?_
 try repeat' (first | refine KO ?_ | (refine CF 122 ?_; (fail_if_success (have := d)); (with_reducible apply dA); exact rfl; intro μse f a; (with_reducible apply bK); (iterate 3 exact rfl); exact EN; exact fun w hw => dZ [7] _ _ _ w _ hw (cI a rfl (by simp) (by repeat first | exact bZ | refine bH rfl ?_)) (by omega); rintro ve μe h d; obtain ⟨fe, cape, rfl⟩ := Cls.form d) | ((with_reducible apply F1 119); exact rfl; exact EN; (exact fun w μc hw e => by have i := e.le; exact mD (fJ) _ _ _ t.kids _ _ _ w μc hw (fP _) (KR.mono (by (repeat first | assumption | refine MLe.trans ?_ ‹MLe _ _›)) hk) rfl (by omega) g)) | refine KZ ?_ | refine NB fun b => ?_ | (refine KB ?_ ?_ <;> intro o))
 all_goals exact aJ rfl rfl rfl
theorem aLi (t : T) (u : Value) (w : World) (μ : Mem) (hμ : MOk μ w) (hk : KR μ t.kids u) (hs : t.size ≤ 100000) (j : ∀ k ∈ t.kids, T.size k ≤ 100000 ∧ k.s.size ≤ 65536) (q : t.op = 2) :
 aV 80 #[.agg (aY t u).toArray] w (.bool (iS (ofT [3]) 1 (-1) t.kids)) := by
 have ho := hk.one
 obtain ⟨A, c, rfl, r, -⟩ := hk.form
 have hlen := eL t
 refine aE (args := [.agg (aY t (.slice A t.kids.length c)).toArray]) Tryz.func80 rfl Tryz.ntmps80 (by simp) hμ ?_
 try repeat' (first | refine KO ?_ | (refine CF 122 ?_; (fail_if_success (have := f)); (with_reducible apply dA); exact rfl; intro μse i e; (with_reducible apply bK); (iterate 3 exact rfl); exact EN; exact fun w hw => dZ [7] _ _ _ w _ hw (cI e rfl (by simp) (by repeat first | exact bZ | refine bH rfl ?_)) (by omega); rintro ve μe o f; obtain ⟨fe, cape, rfl⟩ := Cls.form f) | (refine CF 122 ?_; (fail_if_success (have := a)); (with_reducible apply dA); exact rfl; intro μsq h d; (with_reducible apply bK); (iterate 3 exact rfl); exact EN; exact fun w hw => dZ [3] _ _ _ w _ hw (cI d rfl (by simp) (by repeat first | exact bZ | refine bH rfl ?_)) (by omega); rintro vq μq l a; obtain ⟨fq, capq, rfl⟩ := Cls.form a) | ((with_reducible apply F1 119); exact rfl; exact EN; (exact fun w μc hw g => by have p := g.le; exact mD (ofT [3]) _ _ _ t.kids _ _ _ w μc hw (Cls.mono a (by (repeat assumption))) (KR.mono (by (repeat first | assumption | refine MLe.trans ?_ ‹MLe _ _›)) hk) rfl (by omega) j)) | refine KZ ?_ | refine NB fun b => ?_)
 all_goals exact aJ rfl rfl rfl
theorem aH0 (t : T) (u : Value) (w : World) (μ : Mem) (hμ : MOk μ w) (hk : KR μ t.kids u) (hs : t.size ≤ 100000) (g : ∀ k ∈ t.kids, T.size k ≤ 100000 ∧ k.s.size ≤ 65536) (j : t.op = 3) :
 aV 80 #[.agg (aY t u).toArray] w (.bool (dK [(cW, 0), (bR, 1)] t.kids)) := by
 have ho := hk.one
 obtain ⟨A, c, rfl, l, -⟩ := hk.form
 have hlen := eL t
 refine aE (args := [.agg (aY t (.slice A t.kids.length c)).toArray]) Tryz.func80 rfl Tryz.ntmps80 (by simp) hμ ?_
 try repeat' (first | refine KO ?_ | (refine CF 122 ?_; (fail_if_success (have := e)); (with_reducible apply dA); exact rfl; intro μse f a; (with_reducible apply bK); (iterate 3 exact rfl); exact EN; exact fun w hw => dZ [7] _ _ _ w _ hw (cI a rfl (by simp) (by repeat first | exact bZ | refine bH rfl ?_)) (by omega); rintro ve μe h e; obtain ⟨fe, cape, rfl⟩ := Cls.form e) | ((with_reducible apply F1 124); exact rfl; exact EN; (exact fun w μc hw d => by have i := d.le; exact oD [(.func (.func 127) #[] #[], 0), (.func (.func 121) #[] #[], 1)] [(cW, 0), (bR, 1)] t.kids _ _ _ _ _ w μc hw (KR.mono (by (repeat first | assumption | refine MLe.trans ?_ ‹MLe _ _›)) hk) rfl (by omega) (cI d.hd rfl (by simp) (by repeat first | exact bZ | refine bH rfl ?_)) rfl (by decide) (Rws.cons (iT _) (Rws.cons (bX _) (Rws.nil _))) g)) | refine KZ ?_ | refine NB fun b => ?_)
 all_goals exact aJ rfl rfl rfl
theorem aHy (t : T) (u : Value) (w : World) (μ : Mem) (hμ : MOk μ w) (hk : KR μ t.kids u) (hs : t.size ≤ 100000) (o : ∀ k ∈ t.kids, T.size k ≤ 100000 ∧ k.s.size ≤ 65536) (y : t.op = 4) :
 aV 80 #[.agg (aY t u).toArray] w (.bool (dK (eI [ofT [5], wJ t]) t.kids)) := by
 have ho := hk.one
 obtain ⟨A, c, rfl, z, -⟩ := hk.form
 have hlen := eL t
 refine aE (args := [.agg (aY t (.slice A t.kids.length c)).toArray]) Tryz.func80 rfl Tryz.ntmps80 (by simp) hμ ?_
 try repeat' (first | refine KO ?_ | (refine CF 122 ?_; (fail_if_success (have := i)); (with_reducible apply dA); exact rfl; intro μse l g; (with_reducible apply bK); (iterate 3 exact rfl); exact EN; exact fun w hw => dZ [7] _ _ _ w _ hw (cI g rfl (by simp) (by repeat first | exact bZ | refine bH rfl ?_)) (by omega); rintro ve μe x i; obtain ⟨fe, cape, rfl⟩ := Cls.form i) | refine KZ ?_ | refine NB fun b => ?_)
 refine aT 9 _ (by kernel_rfl) rfl (aC aQ) ?_
 all_goals (refine DD 0 ?_; refine DD 3 ?_; refine D3 1 ?_; refine D5 ?_; refine NB fun b => ?_; refine D9 ?_)
 all_goals (refine D3 2 ?_; refine D5 ?_; (refine CF 122 ?_; (fail_if_success (have := d)); (with_reducible apply dA); exact rfl; intro μsq j f; (with_reducible apply bK); (iterate 3 exact rfl); exact EN; exact fun w hw => dZ [5] _ _ _ w _ hw (cI f rfl (by simp) (by repeat first | exact bZ | refine bH rfl ?_)) (by omega); rintro vq μq q d; obtain ⟨fq, capq, rfl⟩ := Cls.form d); refine D9 ?_)
 all_goals (refine D3 4 ?_; refine D5 ?_; (refine CF 132 ?_; (fail_if_success (have := e)); (with_reducible apply bK); (iterate 3 exact rfl); exact EN; exact fun w hw => aC8 t _ w _ hw (KR.mono (by (repeat first | assumption | refine MLe.trans ?_ ‹MLe _ _›)) hk) hs; rintro vk μk r e; obtain ⟨fk, capk, rfl⟩ := Cls.form e); refine D9 ?_)
 all_goals (refine D3 5 ?_; refine D5 ?_; refine NB fun b => ?_; refine D9 ?_)
 all_goals (refine D3 6 ?_; refine D5 ?_; (((with_reducible apply F3 125); exact rfl; exact EN; (exact fun w μc hw a => by have h := a.le; exact fY [.func (.func fq) #[] capq.toArray, .func (.func fk) #[] capk.toArray] _ _ _ w μc hw (cI a.hd rfl (by simp) (by repeat first | exact bZ | refine bH rfl ?_)) (bV.nQ (μ := μc) (ps := [ofT [5], wJ t]) (bV.cons (Cls.mono d (by (repeat first | assumption | refine MLe.trans ?_ ‹MLe _ _›))) (bV.cons (Cls.mono e (by (repeat assumption))) (bV.nil _)))) (by omega)); intro v9; (with_reducible apply eU 0); exact rfl; rintro A9 c9 rfl p)); refine D9 ?_)
 all_goals (refine D3 7 ?_; refine D5 ?_; (((with_reducible apply F1 124); exact rfl; exact EN; (exact fun w μc hw a => by have h := a.le; exact fX [.func (.func fq) #[] capq.toArray, .func (.func fk) #[] capk.toArray] [ofT [5], wJ t] t.kids _ _ _ _ _ w μc hw (KR.mono (by (repeat first | assumption | refine MLe.trans ?_ ‹MLe _ _›)) hk) rfl (by omega) (eR (enc := pB) (xs := [.func (.func fq) #[] capq.toArray, .func (.func fk) #[] capk.toArray].map fun v => (v, (0 : Int))) a.hd rfl (by simp) rfl) rfl (by decide) (bV.cons (Cls.mono d (by (repeat first | assumption | refine MLe.trans ?_ ‹MLe _ _›))) (bV.cons (Cls.mono e (by (repeat assumption))) (bV.nil _))) o))); refine D9 ?_)
 all_goals (refine DD 8 ?_; refine D8 ?_)
 try repeat' (refine KZ ?_)
 all_goals exact aJ rfl rfl rfl
theorem aA6 (t : T) (u : Value) (w : World) (μ : Mem) (hμ : MOk μ w) (hk : KR μ t.kids u) (hs : t.size ≤ 100000) (v : ∀ k ∈ t.kids, T.size k ≤ 100000 ∧ k.s.size ≤ 65536) (ad : t.op = 5) :
 aV 80 #[.agg (aY t u).toArray] w (.bool (dK [(eiT [cW, ofT [63]], 2), (ofT [64], 1)] t.kids)) := by
 have ho := hk.one
 obtain ⟨A, c, rfl, ae, -⟩ := hk.form
 have hlen := eL t
 refine aE (args := [.agg (aY t (.slice A t.kids.length c)).toArray]) Tryz.func80 rfl Tryz.ntmps80 (by simp) hμ ?_
 try repeat' (first | refine KO ?_ | (refine CF 122 ?_; (fail_if_success (have := l)); (with_reducible apply dA); exact rfl; intro μse q h; (with_reducible apply bK); (iterate 3 exact rfl); exact EN; exact fun w hw => dZ [7] _ _ _ w _ hw (cI h rfl (by simp) (by repeat first | exact bZ | refine bH rfl ?_)) (by omega); rintro ve μe z l; obtain ⟨fe, cape, rfl⟩ := Cls.form l) | (refine CF 122 ?_; (fail_if_success (have := e)); (with_reducible apply dA); exact rfl; intro μsa r i; (with_reducible apply bK); (iterate 3 exact rfl); exact EN; exact fun w hw => dZ [63] _ _ _ w _ hw (cI i rfl (by simp) (by repeat first | exact bZ | refine bH rfl ?_)) (by omega); rintro va μa aa e; obtain ⟨fa, capa, rfl⟩ := Cls.form e) | (refine CF 120 ?_; (fail_if_success (have := d)); (with_reducible apply dA); exact rfl; intro μsi p g; (with_reducible apply bK); (iterate 3 exact rfl); exact EN; exact fun w hw => iX [.func (.func 127) #[] #[], .func (.func fa) #[] capa.toArray] [cW, ofT [63]] _ _ _ w _ hw (cI g rfl (by simp) (by repeat first | exact bZ | refine bH rfl ?_)) (bV.cons (iT _) (bV.cons (Cls.mono e (by (repeat assumption))) (bV.nil _))) (by omega); rintro vi μi y d; obtain ⟨fi, capi, rfl⟩ := Cls.form d) | (refine CF 122 ?_; (fail_if_success (have := a)); (with_reducible apply dA); exact rfl; intro μsr o f; (with_reducible apply bK); (iterate 3 exact rfl); exact EN; exact fun w hw => dZ [64] _ _ _ w _ hw (cI f rfl (by simp) (by repeat first | exact bZ | refine bH rfl ?_)) (by omega); rintro vr μr x a; obtain ⟨fr, capr, rfl⟩ := Cls.form a) | ((with_reducible apply F1 124); exact rfl; exact EN; (exact fun w μc hw j => by have ab := j.le; exact oD [(.func (.func fi) #[] capi.toArray, 2), (.func (.func fr) #[] capr.toArray, 1)] [(eiT [cW, ofT [63]], 2), (ofT [64], 1)] t.kids _ _ _ _ _ w μc hw (KR.mono (by (repeat first | assumption | refine MLe.trans ?_ ‹MLe _ _›)) hk) rfl (by omega) (cI j.hd rfl (by simp) (by repeat first | exact bZ | refine bH rfl ?_)) rfl (by decide) (Rws.cons (Cls.mono d (by (repeat first | assumption | refine MLe.trans ?_ ‹MLe _ _›))) (Rws.cons (Cls.mono a (by (repeat assumption))) (Rws.nil _))) v)) | refine KZ ?_ | refine NB fun b => ?_)
 all_goals exact aJ rfl rfl rfl
theorem aHx (t : T) (u : Value) (w : World) (μ : Mem) (hμ : MOk μ w) (hk : KR μ t.kids u) (hs : t.size ≤ 100000) (i : ∀ k ∈ t.kids, T.size k ≤ 100000 ∧ k.s.size ≤ 65536) (g : t.op = 7 ∨ t.op = 15 ∨ t.op = 16) :
 aV 80 #[.agg (aY t u).toArray] w (.bool (decide (t.kids.length = 0))) := by
 have ho := hk.one
 obtain ⟨A, c, rfl, h, -⟩ := hk.form
 have hlen := eL t
 refine aE (args := [.agg (aY t (.slice A t.kids.length c)).toArray]) Tryz.func80 rfl Tryz.ntmps80 (by simp) hμ ?_
 try repeat' (first | refine KO ?_ | (refine CF 122 ?_; (fail_if_success (have := d)); (with_reducible apply dA); exact rfl; intro μse e a; (with_reducible apply bK); (iterate 3 exact rfl); exact EN; exact fun w hw => dZ [7] _ _ _ w _ hw (cI a rfl (by simp) (by repeat first | exact bZ | refine bH rfl ?_)) (by omega); rintro ve μe f d; obtain ⟨fe, cape, rfl⟩ := Cls.form d) | refine KZ ?_ | refine NB fun b => ?_ | (refine KB ?_ ?_ <;> intro j))
 all_goals (refine aJ rfl rfl ?_; simp)
theorem aHz (t : T) (u : Value) (w : World) (μ : Mem) (hμ : MOk μ w) (hk : KR μ t.kids u) (hs : t.size ≤ 100000) (h : ∀ k ∈ t.kids, T.size k ≤ 100000 ∧ k.s.size ≤ 65536) (l : t.op = 8 ∨ t.op = 18) :
 aV 80 #[.agg (aY t u).toArray] w (.bool (dK (eI [bR]) t.kids)) := by
 have ho := hk.one
 obtain ⟨A, c, rfl, o, -⟩ := hk.form
 have hlen := eL t
 refine aE (args := [.agg (aY t (.slice A t.kids.length c)).toArray]) Tryz.func80 rfl Tryz.ntmps80 (by simp) hμ ?_
 try repeat' (first | refine KO ?_ | (refine CF 122 ?_; (fail_if_success (have := f)); (with_reducible apply dA); exact rfl; intro μse g d; (with_reducible apply bK); (iterate 3 exact rfl); exact EN; exact fun w hw => dZ [7] _ _ _ w _ hw (cI d rfl (by simp) (by repeat first | exact bZ | refine bH rfl ?_)) (by omega); rintro ve μe j f; obtain ⟨fe, cape, rfl⟩ := Cls.form f) | ((with_reducible apply F1 124); exact rfl; exact EN; (exact fun w μc hw a => by have e := a.le; exact fX [.func (.func 121) #[] #[]] [bR] t.kids _ _ _ _ _ w μc hw (KR.mono (by (repeat first | assumption | refine MLe.trans ?_ ‹MLe _ _›)) hk) rfl (by omega) (eR (enc := pB) (xs := [.func (.func 121) #[] #[]].map fun v => (v, (0 : Int))) a.hd rfl (by simp) rfl) rfl (by decide) (bV.cons (bX _) (bV.nil _)) h)) | refine KZ ?_ | ((with_reducible apply F3 125); exact rfl; exact EN; (exact fun w μc hw a => by have e := a.le; exact fY [.func (.func 121) #[] #[]] _ _ _ w μc hw (cI a.hd rfl (by simp) (by repeat first | exact bZ | refine bH rfl ?_)) (bV.nQ (μ := μc) (ps := [bR]) (bV.cons (bX _) (bV.nil _))) (by omega)); intro v9; (with_reducible apply eU 0); exact rfl; rintro A9 c9 rfl i) | refine NB fun b => ?_ | (refine KB ?_ ?_ <;> intro p))
 all_goals exact aJ rfl rfl rfl
theorem aN9 (t : T) (u : Value) (w : World) (μ : Mem) (hμ : MOk μ w) (hk : KR μ t.kids u) (hs : t.size ≤ 100000) (g : ∀ k ∈ t.kids, T.size k ≤ 100000 ∧ k.s.size ≤ 65536) (j : t.op = 9) :
 aV 80 #[.agg (aY t u).toArray] w (.bool (dK [(bR, 0), (fJ, 0), (fJ, 1)] t.kids)) := by
 have ho := hk.one
 obtain ⟨A, c, rfl, l, -⟩ := hk.form
 have hlen := eL t
 refine aE (args := [.agg (aY t (.slice A t.kids.length c)).toArray]) Tryz.func80 rfl Tryz.ntmps80 (by simp) hμ ?_
 try repeat' (first | refine KO ?_ | (refine CF 122 ?_; (fail_if_success (have := e)); (with_reducible apply dA); exact rfl; intro μse f a; (with_reducible apply bK); (iterate 3 exact rfl); exact EN; exact fun w hw => dZ [7] _ _ _ w _ hw (cI a rfl (by simp) (by repeat first | exact bZ | refine bH rfl ?_)) (by omega); rintro ve μe h e; obtain ⟨fe, cape, rfl⟩ := Cls.form e) | ((with_reducible apply F1 124); exact rfl; exact EN; (exact fun w μc hw d => by have i := d.le; exact oD [(.func (.func 121) #[] #[], 0), (.func (.func 131) #[] #[], 0), (.func (.func 131) #[] #[], 1)] [(bR, 0), (fJ, 0), (fJ, 1)] t.kids _ _ _ _ _ w μc hw (KR.mono (by (repeat first | assumption | refine MLe.trans ?_ ‹MLe _ _›)) hk) rfl (by omega) (cI d.hd rfl (by simp) (by repeat first | exact bZ | refine bH rfl ?_)) rfl (by decide) (Rws.cons (bX _) (Rws.cons (fP _) (Rws.cons (fP _) (Rws.nil _)))) g)) | refine KZ ?_ | refine NB fun b => ?_)
 all_goals exact aJ rfl rfl rfl
theorem aLl (t : T) (u : Value) (w : World) (μ : Mem) (hμ : MOk μ w) (hk : KR μ t.kids u) (hs : t.size ≤ 100000) (y : ∀ k ∈ t.kids, T.size k ≤ 100000 ∧ k.s.size ≤ 65536) (af : t.op = 10) :
 aV 80 #[.agg (aY t u).toArray] w (.bool (dK (eI [ofT [2, 8, 7], eiT [bR, ofT [7]], eiT [bR, ofT [7]], fJ]) t.kids)) := by
 have ho := hk.one
 obtain ⟨A, c, rfl, ag, -⟩ := hk.form
 have hlen := eL t
 refine aE (args := [.agg (aY t (.slice A t.kids.length c)).toArray]) Tryz.func80 rfl Tryz.ntmps80 (by simp) hμ ?_
 try repeat' (first | refine KO ?_ | (refine CF 122 ?_; (fail_if_success (have := g)); (with_reducible apply dA); exact rfl; intro μse x l; (with_reducible apply bK); (iterate 3 exact rfl); exact EN; exact fun w hw => dZ [7] _ _ _ w _ hw (cI l rfl (by simp) (by repeat first | exact bZ | refine bH rfl ?_)) (by omega); rintro ve μe ae g; obtain ⟨fe, cape, rfl⟩ := Cls.form g) | (refine CF 122 ?_; (fail_if_success (have := f)); (with_reducible apply dA); exact rfl; intro μsq r j; (with_reducible apply bK); (iterate 3 exact rfl); exact EN; exact fun w hw => dZ [2, 8, 7] _ _ _ w _ hw (cI j rfl (by simp) (by repeat first | exact bZ | refine bH rfl ?_)) (by omega); rintro vq μq ad f; obtain ⟨fq, capq, rfl⟩ := Cls.form f) | (refine CF 120 ?_; (fail_if_success (have := e)); (with_reducible apply dA); exact rfl; intro μsx q i; (with_reducible apply bK); (iterate 3 exact rfl); exact EN; exact fun w hw => iX [.func (.func 121) #[] #[], .func (.func fe) #[] cape.toArray] [bR, ofT [7]] _ _ _ w _ hw (cI i rfl (by simp) (by repeat first | exact bZ | refine bH rfl ?_)) (bV.cons (bX _) (bV.cons (Cls.mono g (by (repeat first | assumption | refine MLe.trans ?_ ‹MLe _ _›))) (bV.nil _))) (by omega); rintro vx μx ab e; obtain ⟨fx, capx, rfl⟩ := Cls.form e) | (refine CF 120 ?_; (fail_if_success (have := d)); (with_reducible apply dA); exact rfl; intro μsy p h; (with_reducible apply bK); (iterate 3 exact rfl); exact EN; exact fun w hw => iX [.func (.func 121) #[] #[], .func (.func fe) #[] cape.toArray] [bR, ofT [7]] _ _ _ w _ hw (cI h rfl (by simp) (by repeat first | exact bZ | refine bH rfl ?_)) (bV.cons (bX _) (bV.cons (Cls.mono g (by (repeat first | assumption | refine MLe.trans ?_ ‹MLe _ _›))) (bV.nil _))) (by omega); rintro vy μy aa d; obtain ⟨fy, capy, rfl⟩ := Cls.form d) | ((with_reducible apply F1 124); exact rfl; exact EN; (exact fun w μc hw a => by have o := a.le; exact fX [.func (.func fq) #[] capq.toArray, .func (.func fx) #[] capx.toArray, .func (.func fy) #[] capy.toArray, .func (.func 131) #[] #[]] [ofT [2, 8, 7], eiT [bR, ofT [7]], eiT [bR, ofT [7]], fJ] t.kids _ _ _ _ _ w μc hw (KR.mono (by (repeat first | assumption | refine MLe.trans ?_ ‹MLe _ _›)) hk) rfl (by omega) (eR (enc := pB) (xs := [.func (.func fq) #[] capq.toArray, .func (.func fx) #[] capx.toArray, .func (.func fy) #[] capy.toArray, .func (.func 131) #[] #[]].map fun v => (v, (0 : Int))) a.hd rfl (by simp) rfl) rfl (by decide) (bV.cons (Cls.mono f (by (repeat first | assumption | refine MLe.trans ?_ ‹MLe _ _›))) (bV.cons (Cls.mono e (by (repeat first | assumption | refine MLe.trans ?_ ‹MLe _ _›))) (bV.cons (Cls.mono d (by (repeat assumption))) (bV.cons (fP _) (bV.nil _))))) y)) | refine KZ ?_ | ((with_reducible apply F3 125); exact rfl; exact EN; (exact fun w μc hw a => by have o := a.le; exact fY [.func (.func fq) #[] capq.toArray, .func (.func fx) #[] capx.toArray, .func (.func fy) #[] capy.toArray, .func (.func 131) #[] #[]] _ _ _ w μc hw (cI a.hd rfl (by simp) (by repeat first | exact bZ | refine bH rfl ?_)) (bV.nQ (μ := μc) (ps := [ofT [2, 8, 7], eiT [bR, ofT [7]], eiT [bR, ofT [7]], fJ]) (bV.cons (Cls.mono f (by (repeat first | assumption | refine MLe.trans ?_ ‹MLe _ _›))) (bV.cons (Cls.mono e (by (repeat first | assumption | refine MLe.trans ?_ ‹MLe _ _›))) (bV.cons (Cls.mono d (by (repeat assumption))) (bV.cons (fP _) (bV.nil _)))))) (by omega)); intro v9; (with_reducible apply eU 0); exact rfl; rintro A9 c9 rfl z) | refine NB fun b => ?_)
 all_goals exact aJ rfl rfl rfl
theorem aDw (t : T) (u : Value) (w : World) (μ : Mem) (hμ : MOk μ w) (hk : KR μ t.kids u) (hs : t.size ≤ 100000) (h : ∀ k ∈ t.kids, T.size k ≤ 100000 ∧ k.s.size ≤ 65536) (l : t.op = 11 ∨ t.op = 12) :
 aV 80 #[.agg (aY t u).toArray] w (.bool (dK (eI [rX, bR, fJ]) t.kids)) := by
 have ho := hk.one
 obtain ⟨A, c, rfl, o, -⟩ := hk.form
 have hlen := eL t
 refine aE (args := [.agg (aY t (.slice A t.kids.length c)).toArray]) Tryz.func80 rfl Tryz.ntmps80 (by simp) hμ ?_
 try repeat' (first | refine KO ?_ | (refine CF 122 ?_; (fail_if_success (have := f)); (with_reducible apply dA); exact rfl; intro μse g d; (with_reducible apply bK); (iterate 3 exact rfl); exact EN; exact fun w hw => dZ [7] _ _ _ w _ hw (cI d rfl (by simp) (by repeat first | exact bZ | refine bH rfl ?_)) (by omega); rintro ve μe j f; obtain ⟨fe, cape, rfl⟩ := Cls.form f) | ((with_reducible apply F1 124); exact rfl; exact EN; (exact fun w μc hw a => by have e := a.le; exact fX [.func (.func 133) #[] #[], .func (.func 121) #[] #[], .func (.func 131) #[] #[]] [rX, bR, fJ] t.kids _ _ _ _ _ w μc hw (KR.mono (by (repeat first | assumption | refine MLe.trans ?_ ‹MLe _ _›)) hk) rfl (by omega) (eR (enc := pB) (xs := [.func (.func 133) #[] #[], .func (.func 121) #[] #[], .func (.func 131) #[] #[]].map fun v => (v, (0 : Int))) a.hd rfl (by simp) rfl) rfl (by decide) (bV.cons (UL _) (bV.cons (bX _) (bV.cons (fP _) (bV.nil _)))) h)) | refine KZ ?_ | ((with_reducible apply F3 125); exact rfl; exact EN; (exact fun w μc hw a => by have e := a.le; exact fY [.func (.func 133) #[] #[], .func (.func 121) #[] #[], .func (.func 131) #[] #[]] _ _ _ w μc hw (cI a.hd rfl (by simp) (by repeat first | exact bZ | refine bH rfl ?_)) (bV.nQ (μ := μc) (ps := [rX, bR, fJ]) (bV.cons (UL _) (bV.cons (bX _) (bV.cons (fP _) (bV.nil _))))) (by omega)); intro v9; (with_reducible apply eU 0); exact rfl; rintro A9 c9 rfl i) | refine NB fun b => ?_ | (refine KB ?_ ?_ <;> intro p))
 all_goals exact aJ rfl rfl rfl
theorem aDv (t : T) (u : Value) (w : World) (μ : Mem) (hμ : MOk μ w) (hk : KR μ t.kids u) (hs : t.size ≤ 100000) (h : ∀ k ∈ t.kids, T.size k ≤ 100000 ∧ k.s.size ≤ 65536) (l : t.op = 13) :
 aV 80 #[.agg (aY t u).toArray] w (.bool (dK (eI [bR, fJ]) t.kids)) := by
 have ho := hk.one
 obtain ⟨A, c, rfl, o, -⟩ := hk.form
 have hlen := eL t
 refine aE (args := [.agg (aY t (.slice A t.kids.length c)).toArray]) Tryz.func80 rfl Tryz.ntmps80 (by simp) hμ ?_
 try repeat' (first | refine KO ?_ | (refine CF 122 ?_; (fail_if_success (have := f)); (with_reducible apply dA); exact rfl; intro μse g d; (with_reducible apply bK); (iterate 3 exact rfl); exact EN; exact fun w hw => dZ [7] _ _ _ w _ hw (cI d rfl (by simp) (by repeat first | exact bZ | refine bH rfl ?_)) (by omega); rintro ve μe j f; obtain ⟨fe, cape, rfl⟩ := Cls.form f) | ((with_reducible apply F1 124); exact rfl; exact EN; (exact fun w μc hw a => by have e := a.le; exact fX [.func (.func 121) #[] #[], .func (.func 131) #[] #[]] [bR, fJ] t.kids _ _ _ _ _ w μc hw (KR.mono (by (repeat first | assumption | refine MLe.trans ?_ ‹MLe _ _›)) hk) rfl (by omega) (eR (enc := pB) (xs := [.func (.func 121) #[] #[], .func (.func 131) #[] #[]].map fun v => (v, (0 : Int))) a.hd rfl (by simp) rfl) rfl (by decide) (bV.cons (bX _) (bV.cons (fP _) (bV.nil _))) h)) | refine KZ ?_ | ((with_reducible apply F3 125); exact rfl; exact EN; (exact fun w μc hw a => by have e := a.le; exact fY [.func (.func 121) #[] #[], .func (.func 131) #[] #[]] _ _ _ w μc hw (cI a.hd rfl (by simp) (by repeat first | exact bZ | refine bH rfl ?_)) (bV.nQ (μ := μc) (ps := [bR, fJ]) (bV.cons (bX _) (bV.cons (fP _) (bV.nil _)))) (by omega)); intro v9; (with_reducible apply eU 0); exact rfl; rintro A9 c9 rfl i) | refine NB fun b => ?_)
 all_goals exact aJ rfl rfl rfl
theorem aOa (t : T) (u : Value) (w : World) (μ : Mem) (hμ : MOk μ w) (hk : KR μ t.kids u) (hs : t.size ≤ 100000) (h : ∀ k ∈ t.kids, T.size k ≤ 100000 ∧ k.s.size ≤ 65536) (l : t.op = 14) :
 aV 80 #[.agg (aY t u).toArray] w (.bool (dK (eI [fJ, bR]) t.kids)) := by
 have ho := hk.one
 obtain ⟨A, c, rfl, o, -⟩ := hk.form
 have hlen := eL t
 refine aE (args := [.agg (aY t (.slice A t.kids.length c)).toArray]) Tryz.func80 rfl Tryz.ntmps80 (by simp) hμ ?_
 try repeat' (first | refine KO ?_ | (refine CF 122 ?_; (fail_if_success (have := f)); (with_reducible apply dA); exact rfl; intro μse g d; (with_reducible apply bK); (iterate 3 exact rfl); exact EN; exact fun w hw => dZ [7] _ _ _ w _ hw (cI d rfl (by simp) (by repeat first | exact bZ | refine bH rfl ?_)) (by omega); rintro ve μe j f; obtain ⟨fe, cape, rfl⟩ := Cls.form f) | ((with_reducible apply F1 124); exact rfl; exact EN; (exact fun w μc hw a => by have e := a.le; exact fX [.func (.func 131) #[] #[], .func (.func 121) #[] #[]] [fJ, bR] t.kids _ _ _ _ _ w μc hw (KR.mono (by (repeat first | assumption | refine MLe.trans ?_ ‹MLe _ _›)) hk) rfl (by omega) (eR (enc := pB) (xs := [.func (.func 131) #[] #[], .func (.func 121) #[] #[]].map fun v => (v, (0 : Int))) a.hd rfl (by simp) rfl) rfl (by decide) (bV.cons (fP _) (bV.cons (bX _) (bV.nil _))) h)) | refine KZ ?_ | ((with_reducible apply F3 125); exact rfl; exact EN; (exact fun w μc hw a => by have e := a.le; exact fY [.func (.func 131) #[] #[], .func (.func 121) #[] #[]] _ _ _ w μc hw (cI a.hd rfl (by simp) (by repeat first | exact bZ | refine bH rfl ?_)) (bV.nQ (μ := μc) (ps := [fJ, bR]) (bV.cons (fP _) (bV.cons (bX _) (bV.nil _)))) (by omega)); intro v9; (with_reducible apply eU 0); exact rfl; rintro A9 c9 rfl i) | refine NB fun b => ?_)
 all_goals exact aJ rfl rfl rfl
theorem aLk (t : T) (u : Value) (w : World) (μ : Mem) (hμ : MOk μ w) (hk : KR μ t.kids u) (hs : t.size ≤ 100000) (g : ∀ k ∈ t.kids, T.size k ≤ 100000 ∧ k.s.size ≤ 65536) (j : t.op = 17) :
 aV 80 #[.agg (aY t u).toArray] w (.bool (iS bR 0 1 t.kids)) := by
 have ho := hk.one
 obtain ⟨A, c, rfl, l, -⟩ := hk.form
 have hlen := eL t
 refine aE (args := [.agg (aY t (.slice A t.kids.length c)).toArray]) Tryz.func80 rfl Tryz.ntmps80 (by simp) hμ ?_
 try repeat' (first | refine KO ?_ | (refine CF 122 ?_; (fail_if_success (have := d)); (with_reducible apply dA); exact rfl; intro μse f a; (with_reducible apply bK); (iterate 3 exact rfl); exact EN; exact fun w hw => dZ [7] _ _ _ w _ hw (cI a rfl (by simp) (by repeat first | exact bZ | refine bH rfl ?_)) (by omega); rintro ve μe h d; obtain ⟨fe, cape, rfl⟩ := Cls.form d) | ((with_reducible apply F1 119); exact rfl; exact EN; (exact fun w μc hw e => by have i := e.le; exact mD (bR) _ _ _ t.kids _ _ _ w μc hw (bX _) (KR.mono (by (repeat first | assumption | refine MLe.trans ?_ ‹MLe _ _›)) hk) rfl (by omega) g)) | refine KZ ?_ | refine NB fun b => ?_)
 all_goals exact aJ rfl rfl rfl
theorem aDx (t : T) (u : Value) (w : World) (μ : Mem) (hμ : MOk μ w) (hk : KR μ t.kids u) (hs : t.size ≤ 100000) (q : ∀ k ∈ t.kids, T.size k ≤ 100000 ∧ k.s.size ≤ 65536) (aa : t.op = 20) :
 aV 80 #[.agg (aY t u).toArray] w (.bool (dK (eI [eiT [cW, ofT [7]], ofT [6]]) t.kids)) := by
 have ho := hk.one
 obtain ⟨A, c, rfl, ab, -⟩ := hk.form
 have hlen := eL t
 refine aE (args := [.agg (aY t (.slice A t.kids.length c)).toArray]) Tryz.func80 rfl Tryz.ntmps80 (by simp) hμ ?_
 try repeat' (first | refine KO ?_ | (refine CF 122 ?_; (fail_if_success (have := f)); (with_reducible apply dA); exact rfl; intro μse p i; (with_reducible apply bK); (iterate 3 exact rfl); exact EN; exact fun w hw => dZ [7] _ _ _ w _ hw (cI i rfl (by simp) (by repeat first | exact bZ | refine bH rfl ?_)) (by omega); rintro ve μe z f; obtain ⟨fe, cape, rfl⟩ := Cls.form f) | (refine CF 120 ?_; (fail_if_success (have := d)); (with_reducible apply dA); exact rfl; intro μsx l g; (with_reducible apply bK); (iterate 3 exact rfl); exact EN; exact fun w hw => iX [.func (.func 127) #[] #[], .func (.func fe) #[] cape.toArray] [cW, ofT [7]] _ _ _ w _ hw (cI g rfl (by simp) (by repeat first | exact bZ | refine bH rfl ?_)) (bV.cons (iT _) (bV.cons (Cls.mono f (by (repeat assumption))) (bV.nil _))) (by omega); rintro vx μx x d; obtain ⟨fx, capx, rfl⟩ := Cls.form d) | (refine CF 122 ?_; (fail_if_success (have := e)); (with_reducible apply dA); exact rfl; intro μsq o h; (with_reducible apply bK); (iterate 3 exact rfl); exact EN; exact fun w hw => dZ [6] _ _ _ w _ hw (cI h rfl (by simp) (by repeat first | exact bZ | refine bH rfl ?_)) (by omega); rintro vq μq y e; obtain ⟨fq, capq, rfl⟩ := Cls.form e) | ((with_reducible apply F1 124); exact rfl; exact EN; (exact fun w μc hw a => by have j := a.le; exact fX [.func (.func fx) #[] capx.toArray, .func (.func fq) #[] capq.toArray] [eiT [cW, ofT [7]], ofT [6]] t.kids _ _ _ _ _ w μc hw (KR.mono (by (repeat first | assumption | refine MLe.trans ?_ ‹MLe _ _›)) hk) rfl (by omega) (eR (enc := pB) (xs := [.func (.func fx) #[] capx.toArray, .func (.func fq) #[] capq.toArray].map fun v => (v, (0 : Int))) a.hd rfl (by simp) rfl) rfl (by decide) (bV.cons (Cls.mono d (by (repeat first | assumption | refine MLe.trans ?_ ‹MLe _ _›))) (bV.cons (Cls.mono e (by (repeat assumption))) (bV.nil _))) q)) | refine KZ ?_ | ((with_reducible apply F3 125); exact rfl; exact EN; (exact fun w μc hw a => by have j := a.le; exact fY [.func (.func fx) #[] capx.toArray, .func (.func fq) #[] capq.toArray] _ _ _ w μc hw (cI a.hd rfl (by simp) (by repeat first | exact bZ | refine bH rfl ?_)) (bV.nQ (μ := μc) (ps := [eiT [cW, ofT [7]], ofT [6]]) (bV.cons (Cls.mono d (by (repeat first | assumption | refine MLe.trans ?_ ‹MLe _ _›))) (bV.cons (Cls.mono e (by (repeat assumption))) (bV.nil _)))) (by omega)); intro v9; (with_reducible apply eU 0); exact rfl; rintro A9 c9 rfl r) | refine NB fun b => ?_)
 all_goals exact aJ rfl rfl rfl
theorem aA5 (t : T) (u : Value) (w : World) (μ : Mem) (hμ : MOk μ w) (hk : KR μ t.kids u) (hs : t.size ≤ 100000) (j : ∀ k ∈ t.kids, T.size k ≤ 100000 ∧ k.s.size ≤ 65536) (q : t.op = 21) :
 aV 80 #[.agg (aY t u).toArray] w (.bool (dK [(bR, 0), (ofT [22], 2)] t.kids)) := by
 have ho := hk.one
 obtain ⟨A, c, rfl, r, -⟩ := hk.form
 have hlen := eL t
 refine aE (args := [.agg (aY t (.slice A t.kids.length c)).toArray]) Tryz.func80 rfl Tryz.ntmps80 (by simp) hμ ?_
 try repeat' (first | refine KO ?_ | (refine CF 122 ?_; (fail_if_success (have := g)); (with_reducible apply dA); exact rfl; intro μse i e; (with_reducible apply bK); (iterate 3 exact rfl); exact EN; exact fun w hw => dZ [7] _ _ _ w _ hw (cI e rfl (by simp) (by repeat first | exact bZ | refine bH rfl ?_)) (by omega); rintro ve μe o g; obtain ⟨fe, cape, rfl⟩ := Cls.form g) | (refine CF 122 ?_; (fail_if_success (have := a)); (with_reducible apply dA); exact rfl; intro μsq h d; (with_reducible apply bK); (iterate 3 exact rfl); exact EN; exact fun w hw => dZ [22] _ _ _ w _ hw (cI d rfl (by simp) (by repeat first | exact bZ | refine bH rfl ?_)) (by omega); rintro vq μq l a; obtain ⟨fq, capq, rfl⟩ := Cls.form a) | ((with_reducible apply F1 124); exact rfl; exact EN; (exact fun w μc hw f => by have p := f.le; exact oD [(.func (.func 121) #[] #[], 0), (.func (.func fq) #[] capq.toArray, 2)] [(bR, 0), (ofT [22], 2)] t.kids _ _ _ _ _ w μc hw (KR.mono (by (repeat first | assumption | refine MLe.trans ?_ ‹MLe _ _›)) hk) rfl (by omega) (cI f.hd rfl (by simp) (by repeat first | exact bZ | refine bH rfl ?_)) rfl (by decide) (Rws.cons (bX _) (Rws.cons (Cls.mono a (by (repeat assumption))) (Rws.nil _))) j)) | refine KZ ?_ | refine NB fun b => ?_)
 all_goals exact aJ rfl rfl rfl
theorem aH1 (t : T) (u : Value) (w : World) (μ : Mem) (hμ : MOk μ w) (hk : KR μ t.kids u) (hs : t.size ≤ 100000) (j : ∀ k ∈ t.kids, T.size k ≤ 100000 ∧ k.s.size ≤ 65536) (l : t.op = 22) :
 aV 80 #[.agg (aY t u).toArray] w (.bool ((if t.n = 1 then iS fJ 0 (-1) t.kids else dK [(bR, 0), (fJ, 2)] t.kids))) := by
 have ho := hk.one
 obtain ⟨A, c, rfl, o, -⟩ := hk.form
 have hlen := eL t
 refine aE (args := [.agg (aY t (.slice A t.kids.length c)).toArray]) Tryz.func80 rfl Tryz.ntmps80 (by simp) hμ ?_
 by_cases g : t.n = 1
 ·rw [if_pos g]
  try repeat' (first | refine KO ?_ | (refine CF 122 ?_; (fail_if_success (have := d)); (with_reducible apply dA); exact rfl; intro μse f a; (with_reducible apply bK); (iterate 3 exact rfl); exact EN; exact fun w hw => dZ [7] _ _ _ w _ hw (cI a rfl (by simp) (by repeat first | exact bZ | refine bH rfl ?_)) (by omega); rintro ve μe h d; obtain ⟨fe, cape, rfl⟩ := Cls.form d) | ((with_reducible apply F1 119); exact rfl; exact EN; (exact fun w μc hw e => by have i := e.le; exact mD (fJ) _ _ _ t.kids _ _ _ w μc hw (fP _) (KR.mono (by (repeat first | assumption | refine MLe.trans ?_ ‹MLe _ _›)) hk) rfl (by omega) j)) | refine KZ ?_ | refine NB fun b => ?_)
  all_goals exact aJ rfl rfl rfl
 ·rw [if_neg g]
  try repeat' (first | refine KO ?_ | (refine CF 122 ?_; (fail_if_success (have := d)); (with_reducible apply dA); exact rfl; intro μse f a; (with_reducible apply bK); (iterate 3 exact rfl); exact EN; exact fun w hw => dZ [7] _ _ _ w _ hw (cI a rfl (by simp) (by repeat first | exact bZ | refine bH rfl ?_)) (by omega); rintro ve μe h d; obtain ⟨fe, cape, rfl⟩ := Cls.form d) | ((with_reducible apply F1 124); exact rfl; exact EN; (exact fun w μc hw e => by have i := e.le; exact oD [(.func (.func 121) #[] #[], 0), (.func (.func 131) #[] #[], 2)] [(bR, 0), (fJ, 2)] t.kids _ _ _ _ _ w μc hw (KR.mono (by (repeat first | assumption | refine MLe.trans ?_ ‹MLe _ _›)) hk) rfl (by omega) (cI e.hd rfl (by simp) (by repeat first | exact bZ | refine bH rfl ?_)) rfl (by decide) (Rws.cons (bX _) (Rws.cons (fP _) (Rws.nil _))) j)) | refine KZ ?_ | refine NB fun b => ?_)
  all_goals exact aJ rfl rfl rfl
theorem aHv (t : T) (u : Value) (w : World) (μ : Mem) (hμ : MOk μ w) (hk : KR μ t.kids u) (hs : t.size ≤ 100000) (h : ∀ k ∈ t.kids, T.size k ≤ 100000 ∧ k.s.size ≤ 65536) (l : t.op ≠ 1 ∧ t.op ≠ 2 ∧ t.op ≠ 3 ∧ t.op ≠ 4 ∧ t.op ≠ 5 ∧ t.op ≠ 6 ∧ t.op ≠ 7 ∧ t.op ≠ 8 ∧ t.op ≠ 9 ∧ t.op ≠ 10 ∧ t.op ≠ 11 ∧ t.op ≠ 12 ∧ t.op ≠ 13 ∧ t.op ≠ 14 ∧ t.op ≠ 15 ∧ t.op ≠ 16 ∧ t.op ≠ 17 ∧ t.op ≠ 18 ∧ t.op ≠ 19 ∧ t.op ≠ 20 ∧ t.op ≠ 21 ∧ t.op ≠ 22) :
 aV 80 #[.agg (aY t u).toArray] w (.bool (dK (eI [fJ]) t.kids)) := by
 have ho := hk.one
 obtain ⟨A, c, rfl, o, -⟩ := hk.form
 have hlen := eL t
 refine aE (args := [.agg (aY t (.slice A t.kids.length c)).toArray]) Tryz.func80 rfl Tryz.ntmps80 (by simp) hμ ?_
 try repeat' (first | refine KO ?_ | (refine CF 122 ?_; (fail_if_success (have := f)); (with_reducible apply dA); exact rfl; intro μse g d; (with_reducible apply bK); (iterate 3 exact rfl); exact EN; exact fun w hw => dZ [7] _ _ _ w _ hw (cI d rfl (by simp) (by repeat first | exact bZ | refine bH rfl ?_)) (by omega); rintro ve μe j f; obtain ⟨fe, cape, rfl⟩ := Cls.form f) | ((with_reducible apply F1 124); exact rfl; exact EN; (exact fun w μc hw a => by have e := a.le; exact fX [.func (.func 131) #[] #[]] [fJ] t.kids _ _ _ _ _ w μc hw (KR.mono (by (repeat first | assumption | refine MLe.trans ?_ ‹MLe _ _›)) hk) rfl (by omega) (eR (enc := pB) (xs := [.func (.func 131) #[] #[]].map fun v => (v, (0 : Int))) a.hd rfl (by simp) rfl) rfl (by decide) (bV.cons (fP _) (bV.nil _)) h)) | refine KZ ?_ | ((with_reducible apply F3 125); exact rfl; exact EN; (exact fun w μc hw a => by have e := a.le; exact fY [.func (.func 131) #[] #[]] _ _ _ w μc hw (cI a.hd rfl (by simp) (by repeat first | exact bZ | refine bH rfl ?_)) (bV.nQ (μ := μc) (ps := [fJ]) (bV.cons (fP _) (bV.nil _))) (by omega)); intro v9; (with_reducible apply eU 0); exact rfl; rintro A9 c9 rfl i) | refine NB fun b => ?_)
 all_goals exact aJ rfl rfl rfl
end
section
open Go.RowKit Go.Vcg
theorem aGr (p : T → Bool) (l : List T) : mW p 0 1 l = (1, l) := by
 cases l with
 | nil => rfl
 | cons k r => rw [mW, if_neg (by simp)]
theorem sM {p : T → Bool} {ps : List (T → Bool)} {l : List T} (h : dK (eI (p :: ps)) l = true) : ∃ k r, l = k :: r ∧ p k = true ∧ dK (eI ps) r = true := by
 unfold eI at h
 rw [aO, dK] at h
 cases l with
 | nil => simp [mW] at h
 | cons k r =>
   cases a : p k with
   | false =>
     have e : mW p 0 0 (k :: r) = (0, k :: r) := by rw [mW, if_neg (by simp [a])]
     rw [e] at h
     simp at h
   | true =>
     have e : mW p 0 0 (k :: r) = (1, r) := by rw [mW, if_pos ⟨a, .inl rfl⟩, aGr]
     rw [e, if_neg (by simp)] at h
     exact ⟨k, r, rfl, a, h⟩
theorem JF {l : List T} (h : dK (eI []) l = true) : l = [] := by
 unfold eI at h
 rw [gZ, dK, decide_eq_true_eq] at h
 exact cF h
def NY (l : List T) : Bool := dK (eI [ofT [6], ofT [20, 7], ofT [6, 7]]) l && (match l with | [_, y, z] => decide (y.op ≠ 7) || decide (z.op ≠ 7) | _ => false)
theorem aPb {a b c : T → Bool} {l : List T} (h : dK (eI [a, b, c]) l = true) : ∃ x y z, l = [x, y, z] := by
 obtain ⟨x, r, rfl, _, h⟩ := sM h
 obtain ⟨y, r, rfl, _, h⟩ := sM h
 obtain ⟨z, r, rfl, _, h⟩ := sM h
 rw [JF h]
 exact ⟨x, y, z, rfl⟩
attribute [local irreducible] dK iS G GC GQ GA eN Calls IntKind.wrap Int.decLt Int.decLe
theorem aLj (t : T) (u : Value) (w : World) (μ : Mem) (hμ : MOk μ w) (hk : KR μ t.kids u) (hs : t.size ≤ 100000) (ak : ∀ k ∈ t.kids, T.size k ≤ 100000 ∧ k.s.size ≤ 65536) (ao : t.op = 19) :
 aV 80 #[.agg (aY t u).toArray] w (.bool (NY t.kids)) := by
 have ho := hk.one
 obtain ⟨A, c, rfl, ar, q⟩ := hk.form
 have hlen := eL t
 refine aE (args := [.agg (aY t (.slice A t.kids.length c)).toArray]) Tryz.func80 rfl Tryz.ntmps80 (by simp) hμ ?_
 cases hB : dK (eI [ofT [6], ofT [20, 7], ofT [6, 7]]) t.kids
 ·have hg : NY t.kids = false := by unfold NY; rw [hB, dX]
  rw [hg]
  try repeat' (first | refine KO ?_ | (refine CF 122 ?_; (fail_if_success (have := p)); (with_reducible apply dA); exact rfl; intro μse ae l; (with_reducible apply bK); (iterate 3 exact rfl); exact EN; exact fun w hw => dZ [7] _ _ _ w _ hw (cI l rfl (by simp) (by repeat first | exact bZ | refine bH rfl ?_)) (by omega); rintro ve μe aj p; obtain ⟨fe, cape, rfl⟩ := Cls.form p) | (refine CF 122 ?_; (fail_if_success (have := g)); (with_reducible apply dA); exact rfl; intro μsq ab j; (with_reducible apply bK); (iterate 3 exact rfl); exact EN; exact fun w hw => dZ [6] _ _ _ w _ hw (cI j rfl (by simp) (by repeat first | exact bZ | refine bH rfl ?_)) (by omega); rintro vq μq ai g; obtain ⟨fq, capq, rfl⟩ := Cls.form g) | (refine CF 122 ?_; (fail_if_success (have := f)); (with_reducible apply dA); exact rfl; intro μsr aa i; (with_reducible apply bK); (iterate 3 exact rfl); exact EN; exact fun w hw => dZ [20, 7] _ _ _ w _ hw (cI i rfl (by simp) (by repeat first | exact bZ | refine bH rfl ?_)) (by omega); rintro vr μr ah f; obtain ⟨fr, capr, rfl⟩ := Cls.form f) | (refine CF 122 ?_; (fail_if_success (have := d)); (with_reducible apply dA); exact rfl; intro μsz r h; (with_reducible apply bK); (iterate 3 exact rfl); exact EN; exact fun w hw => dZ [6, 7] _ _ _ w _ hw (cI h rfl (by simp) (by repeat first | exact bZ | refine bH rfl ?_)) (by omega); rintro vz μz ag d; obtain ⟨fz, capz, rfl⟩ := Cls.form d) | ((with_reducible apply F1 124); exact rfl; exact EN; (exact fun w μc hw a => by have o := a.le; exact fX [.func (.func fq) #[] capq.toArray, .func (.func fr) #[] capr.toArray, .func (.func fz) #[] capz.toArray] [ofT [6], ofT [20, 7], ofT [6, 7]] t.kids _ _ _ _ _ w μc hw (KR.mono (by (repeat first | assumption | refine MLe.trans ?_ ‹MLe _ _›)) hk) rfl (by omega) (eR (enc := pB) (xs := [.func (.func fq) #[] capq.toArray, .func (.func fr) #[] capr.toArray, .func (.func fz) #[] capz.toArray].map fun v => (v, (0 : Int))) a.hd rfl (by simp) rfl) rfl (by decide) (bV.cons (Cls.mono g (by (repeat first | assumption | refine MLe.trans ?_ ‹MLe _ _›))) (bV.cons (Cls.mono f (by (repeat first | assumption | refine MLe.trans ?_ ‹MLe _ _›))) (bV.cons (Cls.mono d (by (repeat assumption))) (bV.nil _)))) ak)) | refine KZ ?_ | ((with_reducible apply F3 125); exact rfl; exact EN; (exact fun w μc hw a => by have o := a.le; exact fY [.func (.func fq) #[] capq.toArray, .func (.func fr) #[] capr.toArray, .func (.func fz) #[] capz.toArray] _ _ _ w μc hw (cI a.hd rfl (by simp) (by repeat first | exact bZ | refine bH rfl ?_)) (bV.nQ (μ := μc) (ps := [ofT [6], ofT [20, 7], ofT [6, 7]]) (bV.cons (Cls.mono g (by (repeat first | assumption | refine MLe.trans ?_ ‹MLe _ _›))) (bV.cons (Cls.mono f (by (repeat first | assumption | refine MLe.trans ?_ ‹MLe _ _›))) (bV.cons (Cls.mono d (by (repeat assumption))) (bV.nil _))))) (by omega)); intro v9; (with_reducible apply eU 0); exact rfl; rintro A9 c9 rfl af) | refine NB fun b => ?_ | (refine KB ?_ ?_ <;> intro hp))
  all_goals first | exact aJ rfl rfl rfl | (exfalso; rw [hB] at hp; cases hp; done)
 ·obtain ⟨x, y, z, hl⟩ := aPb hB
  obtain ⟨ad, u1, rfl, an, aq, aw⟩ := q 1 y (by rw [hl]; rfl)
  obtain ⟨ad2, u2, e, al, ap, av⟩ := q 2 z (by rw [hl]; rfl)
  cases e
  have hg : NY t.kids = (decide (y.op ≠ 7) || decide (z.op ≠ 7)) := by unfold NY; rw [hB, hl, cH]
  have au : t.kids.length = 3 := by rw [hl]; rfl
  rw [hg]
  try repeat' (first | refine KO ?_ | (refine CF 122 ?_; (fail_if_success (have := p)); (with_reducible apply dA); exact rfl; intro μse ae l; (with_reducible apply bK); (iterate 3 exact rfl); exact EN; (exact fun w hw => dZ [7] _ _ _ w _ hw (cI l rfl (by simp) (by repeat first | exact bZ | refine bH rfl ?_)) (by omega)); rintro ve μe aj p; (obtain ⟨fe, cape, rfl⟩ := Cls.form p)) | (refine CF 122 ?_; (fail_if_success (have := g)); (with_reducible apply dA); exact rfl; intro μsq ab j; (with_reducible apply bK); (iterate 3 exact rfl); exact EN; (exact fun w hw => dZ [6] _ _ _ w _ hw (cI j rfl (by simp) (by repeat first | exact bZ | refine bH rfl ?_)) (by omega)); rintro vq μq ai g; (obtain ⟨fq, capq, rfl⟩ := Cls.form g)) | (refine CF 122 ?_; (fail_if_success (have := f)); (with_reducible apply dA); exact rfl; intro μsr aa i; (with_reducible apply bK); (iterate 3 exact rfl); exact EN; (exact fun w hw => dZ [20, 7] _ _ _ w _ hw (cI i rfl (by simp) (by repeat first | exact bZ | refine bH rfl ?_)) (by omega)); rintro vr μr ah f; (obtain ⟨fr, capr, rfl⟩ := Cls.form f)) | (refine CF 122 ?_; (fail_if_success (have := d)); (with_reducible apply dA); exact rfl; intro μsz r h; (with_reducible apply bK); (iterate 3 exact rfl); exact EN; (exact fun w hw => dZ [6, 7] _ _ _ w _ hw (cI h rfl (by simp) (by repeat first | exact bZ | refine bH rfl ?_)) (by omega)); rintro vz μz ag d; (obtain ⟨fz, capz, rfl⟩ := Cls.form d)) | ((with_reducible apply F3 125); exact rfl; exact EN; (exact fun w μc hw a => by have o := a.le; exact fY [.func (.func fq) #[] capq.toArray, .func (.func fr) #[] capr.toArray, .func (.func fz) #[] capz.toArray] _ _ _ w μc hw (cI a.hd rfl (by simp) (by repeat first | exact bZ | refine bH rfl ?_)) (bV.nQ (μ := μc) (ps := [ofT [6], ofT [20, 7], ofT [6, 7]]) (bV.cons (Cls.mono g (by (repeat first | assumption | refine MLe.trans ?_ ‹MLe _ _›))) (bV.cons (Cls.mono f (by (repeat first | assumption | refine MLe.trans ?_ ‹MLe _ _›))) (bV.cons (Cls.mono d (by (repeat assumption))) (bV.nil _))))) (by omega)); intro v9; (with_reducible apply eU 0); exact rfl; rintro A9 c9 rfl af) | ((with_reducible apply F1 124); exact rfl; exact EN; (exact fun w μc hw a => by have o := a.le; exact fX [.func (.func fq) #[] capq.toArray, .func (.func fr) #[] capr.toArray, .func (.func fz) #[] capz.toArray] [ofT [6], ofT [20, 7], ofT [6, 7]] t.kids _ _ _ _ _ w μc hw (KR.mono (by (repeat first | assumption | refine MLe.trans ?_ ‹MLe _ _›)) hk) rfl (by omega) (eR (enc := pB) (xs := [.func (.func fq) #[] capq.toArray, .func (.func fr) #[] capr.toArray, .func (.func fz) #[] capz.toArray].map fun v => (v, (0 : Int))) a.hd rfl (by simp) rfl) rfl (by decide) (bV.cons (Cls.mono g (by (repeat first | assumption | refine MLe.trans ?_ ‹MLe _ _›))) (bV.cons (Cls.mono f (by (repeat first | assumption | refine MLe.trans ?_ ‹MLe _ _›))) (bV.cons (Cls.mono d (by (repeat assumption))) (bV.nil _)))) ak)) | (refine KV (b := by first | exact U1 1 | exact U1 2 | ((with_reducible apply NV); (iterate 3 exact rfl); exact (an.mono (by (repeat first | exact MLe.refl _ | assumption | refine MLe.trans ?_ ‹MLe _ _›))); exact rfl) | ((with_reducible apply NV); (iterate 3 exact rfl); exact (al.mono (by (repeat first | assumption | refine MLe.trans ?_ ‹MLe _ _›))); exact rfl)) (c := ?_)) | refine KZ ?_ | refine NB fun b => ?_ | (refine KB ?_ ?_ <;> intro hp))
  all_goals (refine aJ rfl rfl ?_; simp_all; done)
end
section
open Go.RowKit Go.Vcg
attribute [local irreducible] dK iS pZ kG mJ rU G GC GQ GA eN Calls IntKind.wrap Int.decLt Int.decLe
theorem aJv (t : T) (u : Value) (w : World) (μ : Mem) (hμ : MOk μ w) (hk : KR μ t.kids u) (hs : t.size ≤ 100000) (e : ∀ k ∈ t.kids, T.size k ≤ 100000 ∧ k.s.size ≤ 65536) (a : t.op = 30 ∨ t.op = 31 ∨ t.op = 32 ∨ t.op = 33 ∨ t.op = 34 ∨ t.op = 35 ∨ t.op = 40) :
 aV 79 #[.agg (aY t u).toArray] w (.bool (decide (t.kids.length = 0))) := by
 have ho := hk.one
 obtain ⟨A, c, rfl, d, -⟩ := hk.form
 have hlen := eL t
 refine aE (args := [.agg (aY t (.slice A t.kids.length c)).toArray]) Tryz.func79 rfl Tryz.ntmps79 (by simp) hμ ?_
 try repeat' (first | refine KZ ?_ | refine NB fun b => ?_ | (refine KB ?_ ?_ <;> intro f))
 all_goals (refine aJ rfl rfl ?_; simp)
theorem aJs (t : T) (u : Value) (w : World) (μ : Mem) (hμ : MOk μ w) (hk : KR μ t.kids u) (hs : t.size ≤ 100000) (d : ∀ k ∈ t.kids, T.size k ≤ 100000 ∧ k.s.size ≤ 65536) (f : t.op = 36) :
 aV 79 #[.agg (aY t u).toArray] w (.bool (mJ bR t.kids)) := by
 have ho := hk.one
 obtain ⟨A, c, rfl, g, -⟩ := hk.form
 have hlen := eL t
 refine aE (args := [.agg (aY t (.slice A t.kids.length c)).toArray]) Tryz.func79 rfl Tryz.ntmps79 (by simp) hμ ?_
 try repeat' (first | refine KO ?_ | ((with_reducible apply F1 118); exact rfl; exact EN; (exact fun w μc hw a => by have e := a.le; exact KQ t.kids _ _ _ w μc hw (KR.mono (by (repeat assumption)) hk) rfl (by omega) d)) | refine KZ ?_ | refine NB fun b => ?_)
 all_goals exact aJ rfl rfl rfl
theorem aGn (t : T) (u : Value) (w : World) (μ : Mem) (hμ : MOk μ w) (hk : KR μ t.kids u) (hs : t.size ≤ 100000) (j : ∀ k ∈ t.kids, T.size k ≤ 100000 ∧ k.s.size ≤ 65536) (q : t.op = 37) :
 aV 79 #[.agg (aY t u).toArray] w (.bool (iS (eiT [bR, ofT [40, 41]]) 0 (-1) t.kids)) := by
 have ho := hk.one
 obtain ⟨A, c, rfl, r, -⟩ := hk.form
 have hlen := eL t
 refine aE (args := [.agg (aY t (.slice A t.kids.length c)).toArray]) Tryz.func79 rfl Tryz.ntmps79 (by simp) hμ ?_
 try repeat' (first | refine KO ?_ | (refine CF 122 ?_; (fail_if_success (have := d)); (with_reducible apply dA); exact rfl; intro μsq i f; (with_reducible apply bK); (iterate 3 exact rfl); exact EN; exact fun w hw => dZ [40, 41] _ _ _ w _ hw (cI f rfl (by simp) (by repeat first | exact bZ | refine bH rfl ?_)) (by omega); rintro vq μq o d; obtain ⟨fq, capq, rfl⟩ := Cls.form d) | (refine CF 120 ?_; (fail_if_success (have := a)); (with_reducible apply dA); exact rfl; intro μsx h e; (with_reducible apply bK); (iterate 3 exact rfl); exact EN; exact fun w hw => iX [.func (.func 121) #[] #[], .func (.func fq) #[] capq.toArray] [bR, ofT [40, 41]] _ _ _ w _ hw (cI e rfl (by simp) (by repeat first | exact bZ | refine bH rfl ?_)) (bV.cons (bX _) (bV.cons (Cls.mono d (by (repeat assumption))) (bV.nil _))) (by omega); rintro vx μx l a; obtain ⟨fx, capx, rfl⟩ := Cls.form a) | ((with_reducible apply F1 119); exact rfl; exact EN; (exact fun w μc hw g => by have p := g.le; exact mD (eiT [bR, ofT [40, 41]]) _ _ _ t.kids _ _ _ w μc hw (Cls.mono a (by (repeat assumption))) (KR.mono (by (repeat first | assumption | refine MLe.trans ?_ ‹MLe _ _›)) hk) rfl (by omega) j)) | refine KZ ?_ | refine NB fun b => ?_)
 all_goals exact aJ rfl rfl rfl
theorem aC1 (t : T) (u : Value) (w : World) (μ : Mem) (hμ : MOk μ w) (hk : KR μ t.kids u) (hs : t.size ≤ 100000) (g : ∀ k ∈ t.kids, T.size k ≤ 100000 ∧ k.s.size ≤ 65536) (j : t.op = 38) :
 aV 79 #[.agg (aY t u).toArray] w (.bool (iS (ofT [39]) 0 (-1) t.kids)) := by
 have ho := hk.one
 obtain ⟨A, c, rfl, l, -⟩ := hk.form
 have hlen := eL t
 refine aE (args := [.agg (aY t (.slice A t.kids.length c)).toArray]) Tryz.func79 rfl Tryz.ntmps79 (by simp) hμ ?_
 try repeat' (first | refine KO ?_ | (refine CF 122 ?_; (fail_if_success (have := a)); (with_reducible apply dA); exact rfl; intro μsq f d; (with_reducible apply bK); (iterate 3 exact rfl); exact EN; exact fun w hw => dZ [39] _ _ _ w _ hw (cI d rfl (by simp) (by repeat first | exact bZ | refine bH rfl ?_)) (by omega); rintro vq μq h a; obtain ⟨fq, capq, rfl⟩ := Cls.form a) | ((with_reducible apply F1 119); exact rfl; exact EN; (exact fun w μc hw e => by have i := e.le; exact mD (ofT [39]) _ _ _ t.kids _ _ _ w μc hw (Cls.mono a (by (repeat assumption))) (KR.mono (by (repeat first | assumption | refine MLe.trans ?_ ‹MLe _ _›)) hk) rfl (by omega) g)) | refine KZ ?_ | refine NB fun b => ?_)
 all_goals exact aJ rfl rfl rfl
theorem aJu (t : T) (u : Value) (w : World) (μ : Mem) (hμ : MOk μ w) (hk : KR μ t.kids u) (hs : t.size ≤ 100000) (d : ∀ k ∈ t.kids, T.size k ≤ 100000 ∧ k.s.size ≤ 65536) (f : t.op = 39) :
 aV 79 #[.agg (aY t u).toArray] w (.bool (pZ t)) := by
 have ho := hk.one
 obtain ⟨A, c, rfl, g, -⟩ := hk.form
 have hlen := eL t
 refine aE (args := [.agg (aY t (.slice A t.kids.length c)).toArray]) Tryz.func79 rfl Tryz.ntmps79 (by simp) hμ ?_
 try repeat' (first | refine KO ?_ | ((with_reducible apply F1 123); exact rfl; exact EN; (exact fun w μc hw a => by have e := a.le; exact aBi t _ w μc hw (KR.mono (by (repeat assumption)) hk) hs d)) | refine KZ ?_ | refine NB fun b => ?_)
 all_goals exact aJ rfl rfl rfl
theorem aC0 (t : T) (u : Value) (w : World) (μ : Mem) (hμ : MOk μ w) (hk : KR μ t.kids u) (hs : t.size ≤ 100000) (e : ∀ k ∈ t.kids, T.size k ≤ 100000 ∧ k.s.size ≤ 65536) (g : t.op = 41 ∨ t.op = 42) :
 aV 79 #[.agg (aY t u).toArray] w (.bool (dK (eI [bR]) t.kids)) := by
 have ho := hk.one
 obtain ⟨A, c, rfl, h, -⟩ := hk.form
 have hlen := eL t
 refine aE (args := [.agg (aY t (.slice A t.kids.length c)).toArray]) Tryz.func79 rfl Tryz.ntmps79 (by simp) hμ ?_
 try repeat' (first | refine KO ?_ | ((with_reducible apply F1 124); exact rfl; exact EN; (exact fun w μc hw a => by have d := a.le; exact fX [.func (.func 121) #[] #[]] [bR] t.kids _ _ _ _ _ w μc hw (KR.mono (by (repeat assumption)) hk) rfl (by omega) (eR (enc := pB) (xs := [.func (.func 121) #[] #[]].map fun v => (v, (0 : Int))) a.hd rfl (by simp) rfl) rfl (by decide) (bV.cons (bX _) (bV.nil _)) e)) | refine KZ ?_ | ((with_reducible apply F3 125); exact rfl; exact EN; (exact fun w μc hw a => by have d := a.le; exact fY [.func (.func 121) #[] #[]] _ _ _ w μc hw (cI a.hd rfl (by simp) (by repeat first | exact bZ | refine bH rfl ?_)) (bV.nQ (μ := μc) (ps := [bR]) (bV.cons (bX _) (bV.nil _))) (by omega)); intro v9; (with_reducible apply eU 0); exact rfl; rintro A9 c9 rfl f) | refine NB fun b => ?_ | (refine KB ?_ ?_ <;> intro i))
 all_goals exact aJ rfl rfl rfl
theorem aCz (t : T) (u : Value) (w : World) (μ : Mem) (hμ : MOk μ w) (hk : KR μ t.kids u) (hs : t.size ≤ 100000) (e : ∀ k ∈ t.kids, T.size k ≤ 100000 ∧ k.s.size ≤ 65536) (g : t.op = 43) :
 aV 79 #[.agg (aY t u).toArray] w (.bool (dK (eI [iE]) t.kids)) := by
 have ho := hk.one
 obtain ⟨A, c, rfl, h, -⟩ := hk.form
 have hlen := eL t
 refine aE (args := [.agg (aY t (.slice A t.kids.length c)).toArray]) Tryz.func79 rfl Tryz.ntmps79 (by simp) hμ ?_
 try repeat' (first | refine KO ?_ | ((with_reducible apply F1 124); exact rfl; exact EN; (exact fun w μc hw a => by have d := a.le; exact fX [.func (.func 126) #[] #[]] [iE] t.kids _ _ _ _ _ w μc hw (KR.mono (by (repeat assumption)) hk) rfl (by omega) (eR (enc := pB) (xs := [.func (.func 126) #[] #[]].map fun v => (v, (0 : Int))) a.hd rfl (by simp) rfl) rfl (by decide) (bV.cons (vZ _) (bV.nil _)) e)) | refine KZ ?_ | ((with_reducible apply F3 125); exact rfl; exact EN; (exact fun w μc hw a => by have d := a.le; exact fY [.func (.func 126) #[] #[]] _ _ _ w μc hw (cI a.hd rfl (by simp) (by repeat first | exact bZ | refine bH rfl ?_)) (bV.nQ (μ := μc) (ps := [iE]) (bV.cons (vZ _) (bV.nil _))) (by omega)); intro v9; (with_reducible apply eU 0); exact rfl; rintro A9 c9 rfl f) | refine NB fun b => ?_)
 all_goals exact aJ rfl rfl rfl
theorem aM9 (t : T) (u : Value) (w : World) (μ : Mem) (hμ : MOk μ w) (hk : KR μ t.kids u) (hs : t.size ≤ 100000) (d : ∀ k ∈ t.kids, T.size k ≤ 100000 ∧ k.s.size ≤ 65536) (f : t.op = 44 ∨ t.op = 45 ∨ t.op = 52) :
 aV 79 #[.agg (aY t u).toArray] w (.bool (iS bR 2 2 t.kids)) := by
 have ho := hk.one
 obtain ⟨A, c, rfl, g, -⟩ := hk.form
 have hlen := eL t
 refine aE (args := [.agg (aY t (.slice A t.kids.length c)).toArray]) Tryz.func79 rfl Tryz.ntmps79 (by simp) hμ ?_
 try repeat' (first | refine KO ?_ | ((with_reducible apply F1 119); exact rfl; exact EN; (exact fun w μc hw a => by have e := a.le; exact mD (bR) _ _ _ t.kids _ _ _ w μc hw (bX _) (KR.mono (by (repeat assumption)) hk) rfl (by omega) d)) | refine KZ ?_ | refine NB fun b => ?_ | (refine KB ?_ ?_ <;> intro h))
 all_goals exact aJ rfl rfl rfl
theorem XM (t : T) (u : Value) (w : World) (μ : Mem) (hμ : MOk μ w) (hk : KR μ t.kids u) (hs : t.size ≤ 100000) (e : ∀ k ∈ t.kids, T.size k ≤ 100000 ∧ k.s.size ≤ 65536) (h : t.op = 46) (g : t.s = ⟨#[61]⟩) :
 aV 79 #[.agg (aY t u).toArray] w (.bool (dK (eI [cW, bR]) t.kids)) := by
 have ho := hk.one
 obtain ⟨A, c, rfl, i, -⟩ := hk.form
 have hlen := eL t
 refine aE (args := [.agg (aY t (.slice A t.kids.length c)).toArray]) Tryz.func79 rfl Tryz.ntmps79 (by simp) hμ ?_
 try repeat' (first | refine KO ?_ | ((with_reducible apply F1 124); exact rfl; exact EN; (exact fun w μc hw a => by have d := a.le; exact fX [.func (.func 127) #[] #[], .func (.func 121) #[] #[]] [cW, bR] t.kids _ _ _ _ _ w μc hw (KR.mono (by (repeat assumption)) hk) rfl (by omega) (eR (enc := pB) (xs := [.func (.func 127) #[] #[], .func (.func 121) #[] #[]].map fun v => (v, (0 : Int))) a.hd rfl (by simp) rfl) rfl (by decide) (bV.cons (iT _) (bV.cons (bX _) (bV.nil _))) e)) | refine KZ ?_ | ((with_reducible apply F3 125); exact rfl; exact EN; (exact fun w μc hw a => by have d := a.le; exact fY [.func (.func 127) #[] #[], .func (.func 121) #[] #[]] _ _ _ w μc hw (cI a.hd rfl (by simp) (by repeat first | exact bZ | refine bH rfl ?_)) (bV.nQ (μ := μc) (ps := [cW, bR]) (bV.cons (iT _) (bV.cons (bX _) (bV.nil _)))) (by omega)); intro v9; (with_reducible apply eU 0); exact rfl; rintro A9 c9 rfl f) | refine NB fun b => ?_)
 all_goals exact aJ rfl rfl rfl
theorem XN (t : T) (u : Value) (w : World) (μ : Mem) (hμ : MOk μ w) (hk : KR μ t.kids u) (hs : t.size ≤ 100000) (e : ∀ k ∈ t.kids, T.size k ≤ 100000 ∧ k.s.size ≤ 65536) (h : t.op = 46) (g : t.s ≠ ⟨#[61]⟩) :
 aV 79 #[.agg (aY t u).toArray] w (.bool (dK (eI [iE, bR]) t.kids)) := by
 have ho := hk.one
 obtain ⟨A, c, rfl, i, -⟩ := hk.form
 have hlen := eL t
 refine aE (args := [.agg (aY t (.slice A t.kids.length c)).toArray]) Tryz.func79 rfl Tryz.ntmps79 (by simp) hμ ?_
 try repeat' (first | refine KO ?_ | ((with_reducible apply F1 124); exact rfl; exact EN; (exact fun w μc hw a => by have d := a.le; exact fX [.func (.func 126) #[] #[], .func (.func 121) #[] #[]] [iE, bR] t.kids _ _ _ _ _ w μc hw (KR.mono (by (repeat assumption)) hk) rfl (by omega) (eR (enc := pB) (xs := [.func (.func 126) #[] #[], .func (.func 121) #[] #[]].map fun v => (v, (0 : Int))) a.hd rfl (by simp) rfl) rfl (by decide) (bV.cons (vZ _) (bV.cons (bX _) (bV.nil _))) e)) | refine KZ ?_ | ((with_reducible apply F3 125); exact rfl; exact EN; (exact fun w μc hw a => by have d := a.le; exact fY [.func (.func 126) #[] #[], .func (.func 121) #[] #[]] _ _ _ w μc hw (cI a.hd rfl (by simp) (by repeat first | exact bZ | refine bH rfl ?_)) (bV.nQ (μ := μc) (ps := [iE, bR]) (bV.cons (vZ _) (bV.cons (bX _) (bV.nil _)))) (by omega)); intro v9; (with_reducible apply eU 0); exact rfl; rintro A9 c9 rfl f) | refine NB fun b => ?_)
 all_goals exact aJ rfl rfl rfl
theorem aJw (t : T) (u : Value) (w : World) (μ : Mem) (hμ : MOk μ w) (hk : KR μ t.kids u) (hs : t.size ≤ 100000) (d : ∀ k ∈ t.kids, T.size k ≤ 100000 ∧ k.s.size ≤ 65536) (f : t.op = 47) :
 aV 79 #[.agg (aY t u).toArray] w (.bool (iS bR 3 3 t.kids)) := by
 have ho := hk.one
 obtain ⟨A, c, rfl, g, -⟩ := hk.form
 have hlen := eL t
 refine aE (args := [.agg (aY t (.slice A t.kids.length c)).toArray]) Tryz.func79 rfl Tryz.ntmps79 (by simp) hμ ?_
 try repeat' (first | refine KO ?_ | ((with_reducible apply F1 119); exact rfl; exact EN; (exact fun w μc hw a => by have e := a.le; exact mD (bR) _ _ _ t.kids _ _ _ w μc hw (bX _) (KR.mono (by (repeat assumption)) hk) rfl (by omega) d)) | refine KZ ?_ | refine NB fun b => ?_)
 all_goals exact aJ rfl rfl rfl
theorem aM7 (t : T) (u : Value) (w : World) (μ : Mem) (hμ : MOk μ w) (hk : KR μ t.kids u) (hs : t.size ≤ 100000) (d : ∀ k ∈ t.kids, T.size k ≤ 100000 ∧ k.s.size ≤ 65536) (f : t.op = 48) :
 aV 79 #[.agg (aY t u).toArray] w (.bool (iS bR 2 (-1) t.kids)) := by
 have ho := hk.one
 obtain ⟨A, c, rfl, g, -⟩ := hk.form
 have hlen := eL t
 refine aE (args := [.agg (aY t (.slice A t.kids.length c)).toArray]) Tryz.func79 rfl Tryz.ntmps79 (by simp) hμ ?_
 try repeat' (first | refine KO ?_ | ((with_reducible apply F1 119); exact rfl; exact EN; (exact fun w μc hw a => by have e := a.le; exact mD (bR) _ _ _ t.kids _ _ _ w μc hw (bX _) (KR.mono (by (repeat assumption)) hk) rfl (by omega) d)) | refine KZ ?_ | refine NB fun b => ?_)
 all_goals exact aJ rfl rfl rfl
theorem aJx (t : T) (u : Value) (w : World) (μ : Mem) (hμ : MOk μ w) (hk : KR μ t.kids u) (hs : t.size ≤ 100000) (e : ∀ k ∈ t.kids, T.size k ≤ 100000 ∧ k.s.size ≤ 65536) (h : t.op = 49 ∨ t.op = 50) :
 aV 79 #[.agg (aY t u).toArray] w (.bool (dK [(bR, 0), (FM, 2)] t.kids)) := by
 have ho := hk.one
 obtain ⟨A, c, rfl, i, -⟩ := hk.form
 have hlen := eL t
 refine aE (args := [.agg (aY t (.slice A t.kids.length c)).toArray]) Tryz.func79 rfl Tryz.ntmps79 (by simp) hμ ?_
 try repeat' (first | refine KO ?_ | (refine CF 128 ?_; (fail_if_success (have := a)); (with_reducible apply bK); (iterate 3 exact rfl); ((with_reducible apply aAp); kernel_rfl); exact fun w hw => aDb w _ hw; rintro vk μk f a; obtain ⟨fk, capk, rfl⟩ := Cls.form a) | ((with_reducible apply F1 124); exact rfl; exact EN; (exact fun w μc hw d => by have g := d.le; exact oD [(.func (.func 121) #[] #[], 0), (.func (.func fk) #[] capk.toArray, 2)] [(bR, 0), (FM, 2)] t.kids _ _ _ _ _ w μc hw (KR.mono (by (repeat first | assumption | refine MLe.trans ?_ ‹MLe _ _›)) hk) rfl (by omega) (cI d.hd rfl (by simp) (by repeat first | exact bZ | refine bH rfl ?_)) rfl (by decide) (Rws.cons (bX _) (Rws.cons (Cls.mono a (by (repeat assumption))) (Rws.nil _))) e)) | refine KZ ?_ | refine NB fun b => ?_ | (refine KB ?_ ?_ <;> intro j))
 all_goals exact aJ rfl rfl rfl
theorem aM8 (t : T) (u : Value) (w : World) (μ : Mem) (hμ : MOk μ w) (hk : KR μ t.kids u) (hs : t.size ≤ 100000) (d : ∀ k ∈ t.kids, T.size k ≤ 100000 ∧ k.s.size ≤ 65536) (f : t.op = 51) :
 aV 79 #[.agg (aY t u).toArray] w (.bool (iS bR 1 1 t.kids)) := by
 have ho := hk.one
 obtain ⟨A, c, rfl, g, -⟩ := hk.form
 have hlen := eL t
 refine aE (args := [.agg (aY t (.slice A t.kids.length c)).toArray]) Tryz.func79 rfl Tryz.ntmps79 (by simp) hμ ?_
 try repeat' (first | refine KO ?_ | ((with_reducible apply F1 119); exact rfl; exact EN; (exact fun w μc hw a => by have e := a.le; exact mD (bR) _ _ _ t.kids _ _ _ w μc hw (bX _) (KR.mono (by (repeat assumption)) hk) rfl (by omega) d)) | refine KZ ?_ | refine NB fun b => ?_)
 all_goals exact aJ rfl rfl rfl
theorem aGm (t : T) (u : Value) (w : World) (μ : Mem) (hμ : MOk μ w) (hk : KR μ t.kids u) (hs : t.size ≤ 100000) (e : ∀ k ∈ t.kids, T.size k ≤ 100000 ∧ k.s.size ≤ 65536) (g : t.op = 53) (a : ∀ k ∈ t.kids, Sh' k) :
 aV 79 #[.agg (aY t u).toArray] w (.bool (rU t.kids)) := by
 have ho := hk.one
 obtain ⟨A, c, rfl, h, -⟩ := hk.form
 have hlen := eL t
 refine aE (args := [.agg (aY t (.slice A t.kids.length c)).toArray]) Tryz.func79 rfl Tryz.ntmps79 (by simp) hμ ?_
 try repeat' (first | refine KO ?_ | ((with_reducible apply F1 129); exact rfl; exact EN; (exact fun w μc hw d => by have f := d.le; exact YF t.kids _ _ _ w μc hw (KR.mono (by (repeat assumption)) hk) rfl (by omega) (fun k hk => ⟨(e k hk).1, a k hk⟩))) | refine KZ ?_ | refine NB fun b => ?_)
 all_goals exact aJ rfl rfl rfl
theorem aGk (t : T) (u : Value) (w : World) (μ : Mem) (hμ : MOk μ w) (hk : KR μ t.kids u) (hs : t.size ≤ 100000) (d : ∀ k ∈ t.kids, T.size k ≤ 100000 ∧ k.s.size ≤ 65536) (f : t.op = 54) :
 aV 79 #[.agg (aY t u).toArray] w (.bool (iS bR t.n 1 t.kids)) := by
 have ho := hk.one
 obtain ⟨A, c, rfl, g, -⟩ := hk.form
 have hlen := eL t
 refine aE (args := [.agg (aY t (.slice A t.kids.length c)).toArray]) Tryz.func79 rfl Tryz.ntmps79 (by simp) hμ ?_
 try repeat' (first | refine KO ?_ | ((with_reducible apply F1 119); exact rfl; exact EN; (exact fun w μc hw a => by have e := a.le; exact mD (bR) _ _ _ t.kids _ _ _ w μc hw (bX _) (KR.mono (by (repeat assumption)) hk) rfl (by omega) d)) | refine KZ ?_ | refine NB fun b => ?_)
 all_goals exact aJ rfl rfl rfl
theorem aJt (t : T) (u : Value) (w : World) (μ : Mem) (hμ : MOk μ w) (hk : KR μ t.kids u) (hs : t.size ≤ 100000) (d : ∀ k ∈ t.kids, T.size k ≤ 100000 ∧ k.s.size ≤ 65536) (f : t.op ≠ 30 ∧ t.op ≠ 31 ∧ t.op ≠ 32 ∧ t.op ≠ 33 ∧ t.op ≠ 34 ∧ t.op ≠ 35 ∧ t.op ≠ 36 ∧ t.op ≠ 37 ∧ t.op ≠ 38 ∧ t.op ≠ 39 ∧ t.op ≠ 40 ∧ t.op ≠ 41 ∧ t.op ≠ 42 ∧ t.op ≠ 43 ∧ t.op ≠ 44 ∧ t.op ≠ 45 ∧ t.op ≠ 46 ∧ t.op ≠ 47 ∧ t.op ≠ 48 ∧ t.op ≠ 49 ∧ t.op ≠ 50 ∧ t.op ≠ 51 ∧ t.op ≠ 52 ∧ t.op ≠ 53 ∧ t.op ≠ 54) :
 aV 79 #[.agg (aY t u).toArray] w (.bool (kG t)) := by
 have ho := hk.one
 obtain ⟨A, c, rfl, g, -⟩ := hk.form
 have hlen := eL t
 refine aE (args := [.agg (aY t (.slice A t.kids.length c)).toArray]) Tryz.func79 rfl Tryz.ntmps79 (by simp) hμ ?_
 try repeat' (first | refine KO ?_ | ((with_reducible apply F1 130); exact rfl; exact EN; (exact fun w μc hw a => by have e := a.le; exact KT t _ w μc hw (KR.mono (by (repeat assumption)) hk) hs d)) | refine KZ ?_ | refine NB fun b => ?_)
 all_goals exact aJ rfl rfl rfl
end
section
open Go.RowKit Go.Vcg Go.Shelf
def tE (s : ByteArray) (ws : List (List UInt8)) : List Bool := ws.map fun l => decide (s = ⟨l.toArray⟩)
def oQ (s : ByteArray) (ws : List (List UInt8)) : Bool := (tE s ws).any id
def BL : List (List UInt8) := [[100, 101, 108, 101, 116, 101], [118, 111, 105, 100], [116, 121, 112, 101, 111, 102], [43], [45], [33], [126]]
def yI : List (List UInt8) := [[43, 43], [45, 45]]
def BK : List (List UInt8) := [[124], [94], [38], [61, 61], [33, 61], [61, 61, 61], [33, 61, 61], [60], [62], [60, 61], [62, 61], [105, 110, 115, 116, 97, 110, 99, 101, 111, 102], [105, 110], [60, 60], [62, 62], [43], [45], [42], [47], [37]]
def yH : List (List UInt8) := [[38, 38], [124, 124], [63, 63]]
def BJ : List (List UInt8) := [[61], [43, 61], [45, 61], [42, 61], [47, 61], [37, 61], [38, 61], [124, 61], [94, 61], [60, 60, 61], [62, 62, 61], [38, 38, 61], [124, 124, 61], [63, 63, 61]]
def kC (op : Int) : Int :=
 if op = 1 ∨ op = 22 ∨ op = 32 ∨ op = 43 ∨ op = 49 ∨ op = 51 ∨ op = 52 ∨ op = 54 then 1 else if op = 2 then 2 else if op = 30 then 9007199254740992 else if op = 39 then 5 else 0
noncomputable def mT (t : T) : Bool :=
 if t.op = 15 ∨ t.op = 16 then decide (t.s = ⟨#[]⟩) || jU t.s
 else if t.op = 23 ∨ t.op = 34 ∨ t.op = 51 then jU t.s
 else if t.op = 31 then true
 else if t.op = 42 then oQ t.s BL
 else if t.op = 43 then oQ t.s yI
 else if t.op = 44 then oQ t.s BK
 else if t.op = 45 then oQ t.s yH
 else if t.op = 46 then oQ t.s BJ
 else decide (t.s = ⟨#[]⟩)
attribute [local irreducible] jU oQ G GC GQ GA eN Calls IntKind.wrap Int.decLt Int.decLe
theorem TC (s : ByteArray) (ws : List (List UInt8)) (A : Option Addr) (n c : Nat) (w : World) (μ : Mem) (hμ : MOk μ w) (l : Sl XT 1 μ A n ws) (hn : n ≤ 100000) :
 aV 143 #[.slice A n c, .string s] w (.int .i64 (firstT (tE s ws))) := by
 refine aE (args := [.slice A n c, .string s]) Tryz.func143 rfl Tryz.ntmps143 (by simp) hμ ?_
 have r : (tE s ws).length = n := by unfold tE; rw [aH]; exact l.1
 try repeat' (refine KZ ?_)
 refine bW (ι := Nat) (fun k => k ≤ n ∧ ∀ (j : Nat) (q : Bool), j < k → (tE s ws)[j]? = some q → q = false) (fun k => n - k) (fun _ => μ) (fun k => [(8, .int .i64 k), (7, .int .i64 n), (6, .slice A n c), (0, .slice A n c), (1, .string s)]) (fun _ => []) 0 ⟨by omega, fun j _ h => absurd h (by omega)⟩ (fun a w hs => J6 hs) ?_
 rintro k ⟨hk, hf⟩
 by_cases hlt : k < n
 ·have d : (tE s ws)[k]? = some ((tE s ws)[k]'(by omega)) := aA (by omega)
  generalize (tE s ws)[k]'(by omega) = q at d
  have f : q = false → ∀ (j : Nat) (q : Bool), j < k + 1 → (tE s ws)[j]? = some q → q = false := fun h j p t i => by
   rcases cY j k with h1 | h1
   ·exact hf j p h1 i
   ·obtain rfl : j = k := by omega
    rw [d] at i
    cases i
    exact h
  obtain ⟨ad, y, rfl, o, hm⟩ := l.get hlt
  have e : q = decide (s = ⟨y.toArray⟩) := by
   have h := d
   unfold tE at h
   rw [aN, o] at h
   exact (cX h).symm
  cases g : q
  ·have hb := f g
   rw [g] at e
   have hne : ¬ s = ⟨y.toArray⟩ := of_decide_eq_false e.symm
   try repeat' (first | refine KO ?_ | (refine KV (b := by first | exact U1 k | exact U3 (hm.at 0 rfl)) (c := ?_)) | refine KZ ?_)
   all_goals exact J4 (k + 1) ⟨by omega, hb⟩ (by omega)
  ·rw [g] at e d
   have he : s = ⟨y.toArray⟩ := of_decide_eq_true e.symm
   try repeat' (first | refine KO ?_ | (refine KV (b := by first | exact U1 k | exact U3 (hm.at 0 rfl)) (c := ?_)))
   all_goals (refine aJ rfl rfl ?_; rw [qR d hf])
 ·try repeat' (refine KZ ?_)
  refine aJ rfl rfl ?_
  rw [nU fun j q g => hf j q (by have := (List.getElem?_eq_some_iff.1 g).1; omega) g]
theorem yD (s : ByteArray) (ws : List (List UInt8)) (A : Option Addr) (n c : Nat) (w : World) (μ : Mem) (hμ : MOk μ w) (b : Sl XT 1 μ A n ws) (hn : n ≤ 100000) :
 aV 107 #[.slice A n c, .string s] w (.bool (oQ s ws)) := by
 refine aE (args := [.slice A n c, .string s]) Tryz.func107 rfl Tryz.ntmps107 (by simp) hμ ?_
 rw [show oQ s ws = decide (0 ≤ firstT (tE s ws)) from by rw [pA]; unfold oQ; rfl]
 try repeat' (first | refine KO ?_ | ((with_reducible apply C1); exact rfl; exact EN; exact fun w μc hw a => TC s ws A n c w μc hw (b.mono a.le) hn))
 exact aJ rfl rfl rfl
theorem wZ (s l : ByteArray) (ws : List (List UInt8)) (hs : Nat.blt l.data.toList.length 4294967281 = true) (e : l.data.toList.all (fun b => Nat.blt b.toNat 128) = true) (hf : Lib.fields l.data.toList = ws) (a : ws.length ≤ 100000) (w : World) (μ : Mem) (hμ : MOk μ w) (f : qX μ) :
 aV 148 #[.string s, .string l] w (.bool (oQ s ws)) := by
 refine aE (args := [.string s, .string l]) Tryz.func148 rfl Tryz.ntmps148 (by simp) hμ ?_
 try repeat' (first | refine KO ?_ | ((with_reducible apply F2 145); exact rfl; exact EN; exact fun w hw => tU l ws hs e hf w _ hw f; rintro v2 μ2 d ⟨bf, rfl, g⟩) | ((with_reducible apply C1); exact rfl; exact EN; exact fun w μc hw c => yD s ws _ _ _ w μc hw (g.mono c.le) a))
 exact aJ rfl rfl rfl
theorem aBv (op : Int) (w : World) (μ : Mem) (hμ : MOk μ w) :
 aV 116 #[.int .i64 op] w (.int .i64 (kC op)) := by
 refine aE (args := [.int .i64 op]) Tryz.func116 rfl Tryz.ntmps116 (by simp) hμ ?_
 try repeat' (first | refine KZ ?_ | (refine KB ?_ ?_ <;> intro a))
 all_goals (refine aJ rfl rfl ?_; simp_all [kC])
noncomputable def rS (op : Int) : Bool := decide ((⟨(tP op).toArray⟩ : ByteArray) ≠ ⟨#[]⟩)
theorem WU (op : Int) (b : -9223372036854775808 ≤ op ∧ op ≤ 9223372036854775807) (w : World) (μ : Mem) (hμ : MOk μ w) (c : qX μ) :
 aV 76 #[.int .i64 op] w (.bool (rS op)) := by
 refine aE (args := [.int .i64 op]) Tryz.func76 rfl Tryz.ntmps76 (by simp) hμ ?_
 try repeat' (first | refine KO ?_ | ((with_reducible apply C1); exact rfl; exact EN; exact fun w μc hw a => aBs op b w μc hw (c.mono a.le)))
 exact aJ rfl rfl rfl
theorem aNu (t : T) (u : Value) (w : World) (μ : Mem) (hμ : MOk μ w) (hk : KR μ t.kids u) (d : qX μ) (c : t.op = 42) :
 aV 117 #[.agg (aY t u).toArray] w (.bool (oQ t.s BL)) := by
 have ho := hk.one
 refine aE (args := [.agg (aY t u).toArray]) Tryz.func117 rfl Tryz.ntmps117 (by simp) hμ ?_
 try repeat' (first | refine KO ?_ | refine K2 148 (fun w μc hw a => wZ t.s _ BL (by kernel_rfl) (by kernel_rfl) (by kernel_rfl) (by decide) w μc hw (d.mono a)) ?_ | refine KZ ?_ | refine NB fun b => ?_)
 all_goals exact aJ rfl rfl rfl
theorem aNt (t : T) (u : Value) (w : World) (μ : Mem) (hμ : MOk μ w) (hk : KR μ t.kids u) (d : qX μ) (c : t.op = 43) :
 aV 117 #[.agg (aY t u).toArray] w (.bool (oQ t.s yI)) := by
 have ho := hk.one
 refine aE (args := [.agg (aY t u).toArray]) Tryz.func117 rfl Tryz.ntmps117 (by simp) hμ ?_
 try repeat' (first | refine KO ?_ | refine K2 148 (fun w μc hw a => wZ t.s _ yI (by kernel_rfl) (by kernel_rfl) (by kernel_rfl) (by decide) w μc hw (d.mono a)) ?_ | refine KZ ?_ | refine NB fun b => ?_)
 all_goals exact aJ rfl rfl rfl
theorem aNs (t : T) (u : Value) (w : World) (μ : Mem) (hμ : MOk μ w) (hk : KR μ t.kids u) (d : qX μ) (c : t.op = 44) :
 aV 117 #[.agg (aY t u).toArray] w (.bool (oQ t.s BK)) := by
 have ho := hk.one
 refine aE (args := [.agg (aY t u).toArray]) Tryz.func117 rfl Tryz.ntmps117 (by simp) hμ ?_
 try repeat' (first | refine KO ?_ | refine K2 148 (fun w μc hw a => wZ t.s _ BK (by kernel_rfl) (by kernel_rfl) (by kernel_rfl) (by decide) w μc hw (d.mono a)) ?_ | refine KZ ?_ | refine NB fun b => ?_)
 all_goals exact aJ rfl rfl rfl
theorem aNr (t : T) (u : Value) (w : World) (μ : Mem) (hμ : MOk μ w) (hk : KR μ t.kids u) (d : qX μ) (c : t.op = 45) :
 aV 117 #[.agg (aY t u).toArray] w (.bool (oQ t.s yH)) := by
 have ho := hk.one
 refine aE (args := [.agg (aY t u).toArray]) Tryz.func117 rfl Tryz.ntmps117 (by simp) hμ ?_
 try repeat' (first | refine KO ?_ | refine K2 148 (fun w μc hw a => wZ t.s _ yH (by kernel_rfl) (by kernel_rfl) (by kernel_rfl) (by decide) w μc hw (d.mono a)) ?_ | refine KZ ?_ | refine NB fun b => ?_)
 all_goals exact aJ rfl rfl rfl
theorem aNq (t : T) (u : Value) (w : World) (μ : Mem) (hμ : MOk μ w) (hk : KR μ t.kids u) (d : qX μ) (c : t.op = 46) :
 aV 117 #[.agg (aY t u).toArray] w (.bool (oQ t.s BJ)) := by
 have ho := hk.one
 refine aE (args := [.agg (aY t u).toArray]) Tryz.func117 rfl Tryz.ntmps117 (by simp) hμ ?_
 try repeat' (first | refine KO ?_ | refine K2 148 (fun w μc hw a => wZ t.s _ BJ (by kernel_rfl) (by kernel_rfl) (by kernel_rfl) (by decide) w μc hw (d.mono a)) ?_ | refine KZ ?_ | refine NB fun b => ?_)
 all_goals exact aJ rfl rfl rfl
theorem aAy (t : T) (u : Value) (w : World) (μ : Mem) (hμ : MOk μ w) (hk : KR μ t.kids u) (h : t.s.size ≤ 65536) (a : qX μ) :
 aV 117 #[.agg (aY t u).toArray] w (.bool (mT t)) := by
 by_cases g : t.op = 42
 ·simpa [mT, g] using aNu t u w μ hμ hk a g
 by_cases f : t.op = 43
 ·simpa [mT, f] using aNt t u w μ hμ hk a f
 by_cases e : t.op = 44
 ·simpa [mT, e] using aNs t u w μ hμ hk a e
 by_cases d : t.op = 45
 ·simpa [mT, d] using aNr t u w μ hμ hk a d
 by_cases c : t.op = 46
 ·simpa [mT, c] using aNq t u w μ hμ hk a c
 have ho := hk.one
 refine aE (args := [.agg (aY t u).toArray]) Tryz.func117 rfl Tryz.ntmps117 (by simp) hμ ?_
 try repeat' (first | refine KO ?_ | refine K2 146 (fun w μc hw i => DZ t.s h w μc hw) ?_ | refine KZ ?_ | refine NB fun b => ?_ | (refine KB ?_ ?_ <;> intro j))
 all_goals (refine aJ rfl rfl ?_; simp_all [mT])
end
end Go.Proofs.YtlllalmkkaolfaaGreatDoor
