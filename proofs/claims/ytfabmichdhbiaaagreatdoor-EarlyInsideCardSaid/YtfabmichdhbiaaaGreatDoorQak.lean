/- tree.statements. (and what leans on it). No statement of the seat is proved here. -/
import Derived.Test.YtfabmichdhbiaaaGreatDoorQaj
import Derived.Test.YtfabmichdhbiaaaGreatDoorQae
set_option maxRecDepth 20000
set_option maxHeartbeats 2000000
namespace Go.Proofs.YtfabmichdhbiaaaGreatDoor
open Go.RowKit Go.Vcg
theorem eatF_one (p : T → Bool) (l : List T) : eatF p 0 1 l = (1, l) := by
  cases l with
  | nil => rfl
  | cons k r => rw [eatF, if_neg (by simp)]
theorem fitP_cons {p : T → Bool} {ps : List (T → Bool)} {l : List T} (h : fitP (eachP (p :: ps)) l = true) : ∃ k r, l = k :: r ∧ p k = true ∧ fitP (eachP ps) r = true := by
  unfold eachP at h
  rw [List.map_cons, fitP] at h
  cases l with
  | nil => simp [eatF] at h
  | cons k r =>
    cases hp : p k with
    | false =>
      have e : eatF p 0 0 (k :: r) = (0, k :: r) := by rw [eatF, if_neg (by simp [hp])]
      rw [e] at h
      simp at h
    | true =>
      have e : eatF p 0 0 (k :: r) = (1, r) := by rw [eatF, if_pos ⟨hp, .inl rfl⟩, eatF_one]
      rw [e, if_neg (by simp)] at h
      exact ⟨k, r, rfl, hp, h⟩
theorem fitP_nil {l : List T} (h : fitP (eachP []) l = true) : l = [] := by
  unfold eachP at h
  rw [List.map_nil, fitP, decide_eq_true_eq] at h
  exact List.eq_nil_of_length_eq_zero h
def tryT (l : List T) : Bool := fitP (eachP [ofT [6], ofT [20, 7], ofT [6, 7]]) l && (match l with | [_, y, z] => decide (y.op ≠ 7) || decide (z.op ≠ 7) | _ => false)
theorem fit3 {a b c : T → Bool} {l : List T} (h : fitP (eachP [a, b, c]) l = true) : ∃ x y z, l = [x, y, z] := by
  obtain ⟨x, r, rfl, _, h⟩ := fitP_cons h
  obtain ⟨y, r, rfl, _, h⟩ := fitP_cons h
  obtain ⟨z, r, rfl, _, h⟩ := fitP_cons h
  rw [fitP_nil h]
  exact ⟨x, y, z, rfl⟩
attribute [local irreducible] fitP fewP G GC GQ GA GAop Calls IntKind.wrap Int.decLt Int.decLe
theorem st_try (t : T) (u : Value) (w : World) (μ : Mem) (hμ : MOk μ w) (hk : KR μ t.kids u) (hs : t.size ≤ 100000) (hks : ∀ k ∈ t.kids, T.size k ≤ 100000 ∧ k.s.size ≤ 65536) (hop : t.op = 19) :
    Calls Tryz.prog 30 #[.agg (encT t u).toArray] w fun e w' => e = .returned (.bool (tryT t.kids)) ∧ Below w.heap.size w w' := by
  have ho := hk.one
  obtain ⟨A, c, rfl, hlc, hkid⟩ := hk.form
  have hlen := kidsLe t
  refine call_intro (args := [.agg (encT t (.slice A t.kids.length c)).toArray]) Tryz.func30 rfl Tryz.ntmps30 (by simp) hμ ?_
  cases hB : fitP (eachP [ofT [6], ofT [20, 7], ofT [6, 7]]) t.kids
  · have hg : tryT t.kids = false := by unfold tryT; rw [hB, Bool.false_and]
    rw [hg]
    repeat' (first | refine KO ?_ | (refine CF 56 ?_; (fail_if_success (have := hce)); (with_reducible apply g_share); exact rfl; intro μse hlese hshe; (with_reducible apply g_enter_m); exact rfl; exact rfl; exact rfl; ((with_reducible apply e_call1); kernel_rfl; exact rfl); (exact fun w hw => of_spec [7] _ _ _ w _ hw (sl_lit hshe rfl (by simp) (by repeat first | exact lc_nil | refine lc_cons rfl ?_)) (by omega)); rintro ve μe hlee hce; (obtain ⟨fe, cape, rfl⟩ := Cls.form hce)) | (refine CF 56 ?_; (fail_if_success (have := hcq)); (with_reducible apply g_share); exact rfl; intro μsq hlesq hshq; (with_reducible apply g_enter_m); exact rfl; exact rfl; exact rfl; ((with_reducible apply e_call1); kernel_rfl; exact rfl); (exact fun w hw => of_spec [6] _ _ _ w _ hw (sl_lit hshq rfl (by simp) (by repeat first | exact lc_nil | refine lc_cons rfl ?_)) (by omega)); rintro vq μq hleq hcq; (obtain ⟨fq, capq, rfl⟩ := Cls.form hcq)) | (refine CF 56 ?_; (fail_if_success (have := hcr)); (with_reducible apply g_share); exact rfl; intro μsr hlesr hshr; (with_reducible apply g_enter_m); exact rfl; exact rfl; exact rfl; ((with_reducible apply e_call1); kernel_rfl; exact rfl); (exact fun w hw => of_spec [20, 7] _ _ _ w _ hw (sl_lit hshr rfl (by simp) (by repeat first | exact lc_nil | refine lc_cons rfl ?_)) (by omega)); rintro vr μr hler hcr; (obtain ⟨fr, capr, rfl⟩ := Cls.form hcr)) | (refine CF 56 ?_; (fail_if_success (have := hcz)); (with_reducible apply g_share); exact rfl; intro μsz hlesz hshz; (with_reducible apply g_enter_m); exact rfl; exact rfl; exact rfl; ((with_reducible apply e_call1); kernel_rfl; exact rfl); (exact fun w hw => of_spec [6, 7] _ _ _ w _ hw (sl_lit hshz rfl (by simp) (by repeat first | exact lc_nil | refine lc_cons rfl ?_)) (by omega)); rintro vz μz hlez hcz; (obtain ⟨fz, capz, rfl⟩ := Cls.form hcz)) | ((with_reducible apply F3 59); exact rfl; exact EN; (exact fun w μc hw hse => by have hle9 := hse.le; exact each_spec [.func (.func fq) #[] capq.toArray, .func (.func fr) #[] capr.toArray, .func (.func fz) #[] capz.toArray] _ _ _ w μc hw (sl_lit hse.hd rfl (by simp) (by repeat first | exact lc_nil | refine lc_cons rfl ?_)) (Clss.forms (μ := μc) (ps := [ofT [6], ofT [20, 7], ofT [6, 7]]) (Clss.cons (Cls.mono hcq (by (repeat first | exact MLe.refl _ | assumption | refine MLe.trans ?_ ‹MLe _ _›))) (Clss.cons (Cls.mono hcr (by (repeat first | exact MLe.refl _ | assumption | refine MLe.trans ?_ ‹MLe _ _›))) (Clss.cons (Cls.mono hcz (by (repeat first | exact MLe.refl _ | assumption | refine MLe.trans ?_ ‹MLe _ _›))) (Clss.nil _))))) (by omega)); intro v9; (with_reducible apply g_rowOk 0); exact rfl; rintro A9 c9 rfl hok9) | ((with_reducible apply F1 58); exact rfl; exact EN; (exact fun w μc hw hse => by have hle9 := hse.le; exact fits_each [.func (.func fq) #[] capq.toArray, .func (.func fr) #[] capr.toArray, .func (.func fz) #[] capz.toArray] [ofT [6], ofT [20, 7], ofT [6, 7]] t.kids _ _ _ _ _ w μc hw (KR.mono (by (repeat first | exact MLe.refl _ | assumption | refine MLe.trans ?_ ‹MLe _ _›)) hk) rfl (by omega) (sl_of_row (enc := encP) (xs := [.func (.func fq) #[] capq.toArray, .func (.func fr) #[] capr.toArray, .func (.func fz) #[] capz.toArray].map fun v => (v, (0 : Int))) hse.hd rfl (by simp) rfl) rfl (by decide) (Clss.cons (Cls.mono hcq (by (repeat first | exact MLe.refl _ | assumption | refine MLe.trans ?_ ‹MLe _ _›))) (Clss.cons (Cls.mono hcr (by (repeat first | exact MLe.refl _ | assumption | refine MLe.trans ?_ ‹MLe _ _›))) (Clss.cons (Cls.mono hcz (by (repeat first | exact MLe.refl _ | assumption | refine MLe.trans ?_ ‹MLe _ _›))) (Clss.nil _)))) hks)) | refine KI ?_ | refine NB fun b => ?_ | ((refine KB ?_ ?_ <;> intro hp)) | refine KG ?_ | fail)
    all_goals first | exact ret_s rfl rfl rfl | (refine ret_s rfl rfl ?_; rw [hB]; done) | (exfalso; rw [hB] at hp; cases hp; done) | (exfalso; simp_all; done)
  · obtain ⟨x, y, z, hl⟩ := fit3 hB
    obtain ⟨ad, u1, rfl, hm1, ho1, hk1⟩ := hkid 1 y (by rw [hl]; rfl)
    obtain ⟨ad2, u2, e, hm2, ho2, hk2⟩ := hkid 2 z (by rw [hl]; rfl)
    cases e
    have hg : tryT t.kids = (decide (y.op ≠ 7) || decide (z.op ≠ 7)) := by unfold tryT; rw [hB, hl, Bool.true_and]
    have hl3 : t.kids.length = 3 := by rw [hl]; rfl
    rw [hg]
    repeat' (first | refine KO ?_ | (refine CF 56 ?_; (fail_if_success (have := hce)); (with_reducible apply g_share); exact rfl; intro μse hlese hshe; (with_reducible apply g_enter_m); exact rfl; exact rfl; exact rfl; ((with_reducible apply e_call1); kernel_rfl; exact rfl); (exact fun w hw => of_spec [7] _ _ _ w _ hw (sl_lit hshe rfl (by simp) (by repeat first | exact lc_nil | refine lc_cons rfl ?_)) (by omega)); rintro ve μe hlee hce; (obtain ⟨fe, cape, rfl⟩ := Cls.form hce)) | (refine CF 56 ?_; (fail_if_success (have := hcq)); (with_reducible apply g_share); exact rfl; intro μsq hlesq hshq; (with_reducible apply g_enter_m); exact rfl; exact rfl; exact rfl; ((with_reducible apply e_call1); kernel_rfl; exact rfl); (exact fun w hw => of_spec [6] _ _ _ w _ hw (sl_lit hshq rfl (by simp) (by repeat first | exact lc_nil | refine lc_cons rfl ?_)) (by omega)); rintro vq μq hleq hcq; (obtain ⟨fq, capq, rfl⟩ := Cls.form hcq)) | (refine CF 56 ?_; (fail_if_success (have := hcr)); (with_reducible apply g_share); exact rfl; intro μsr hlesr hshr; (with_reducible apply g_enter_m); exact rfl; exact rfl; exact rfl; ((with_reducible apply e_call1); kernel_rfl; exact rfl); (exact fun w hw => of_spec [20, 7] _ _ _ w _ hw (sl_lit hshr rfl (by simp) (by repeat first | exact lc_nil | refine lc_cons rfl ?_)) (by omega)); rintro vr μr hler hcr; (obtain ⟨fr, capr, rfl⟩ := Cls.form hcr)) | (refine CF 56 ?_; (fail_if_success (have := hcz)); (with_reducible apply g_share); exact rfl; intro μsz hlesz hshz; (with_reducible apply g_enter_m); exact rfl; exact rfl; exact rfl; ((with_reducible apply e_call1); kernel_rfl; exact rfl); (exact fun w hw => of_spec [6, 7] _ _ _ w _ hw (sl_lit hshz rfl (by simp) (by repeat first | exact lc_nil | refine lc_cons rfl ?_)) (by omega)); rintro vz μz hlez hcz; (obtain ⟨fz, capz, rfl⟩ := Cls.form hcz)) | ((with_reducible apply F3 59); exact rfl; exact EN; (exact fun w μc hw hse => by have hle9 := hse.le; exact each_spec [.func (.func fq) #[] capq.toArray, .func (.func fr) #[] capr.toArray, .func (.func fz) #[] capz.toArray] _ _ _ w μc hw (sl_lit hse.hd rfl (by simp) (by repeat first | exact lc_nil | refine lc_cons rfl ?_)) (Clss.forms (μ := μc) (ps := [ofT [6], ofT [20, 7], ofT [6, 7]]) (Clss.cons (Cls.mono hcq (by (repeat first | exact MLe.refl _ | assumption | refine MLe.trans ?_ ‹MLe _ _›))) (Clss.cons (Cls.mono hcr (by (repeat first | exact MLe.refl _ | assumption | refine MLe.trans ?_ ‹MLe _ _›))) (Clss.cons (Cls.mono hcz (by (repeat first | exact MLe.refl _ | assumption | refine MLe.trans ?_ ‹MLe _ _›))) (Clss.nil _))))) (by omega)); intro v9; (with_reducible apply g_rowOk 0); exact rfl; rintro A9 c9 rfl hok9) | ((with_reducible apply F1 58); exact rfl; exact EN; (exact fun w μc hw hse => by have hle9 := hse.le; exact fits_each [.func (.func fq) #[] capq.toArray, .func (.func fr) #[] capr.toArray, .func (.func fz) #[] capz.toArray] [ofT [6], ofT [20, 7], ofT [6, 7]] t.kids _ _ _ _ _ w μc hw (KR.mono (by (repeat first | exact MLe.refl _ | assumption | refine MLe.trans ?_ ‹MLe _ _›)) hk) rfl (by omega) (sl_of_row (enc := encP) (xs := [.func (.func fq) #[] capq.toArray, .func (.func fr) #[] capr.toArray, .func (.func fz) #[] capz.toArray].map fun v => (v, (0 : Int))) hse.hd rfl (by simp) rfl) rfl (by decide) (Clss.cons (Cls.mono hcq (by (repeat first | exact MLe.refl _ | assumption | refine MLe.trans ?_ ‹MLe _ _›))) (Clss.cons (Cls.mono hcr (by (repeat first | exact MLe.refl _ | assumption | refine MLe.trans ?_ ‹MLe _ _›))) (Clss.cons (Cls.mono hcz (by (repeat first | exact MLe.refl _ | assumption | refine MLe.trans ?_ ‹MLe _ _›))) (Clss.nil _)))) hks)) | (refine KV (b := by first | exact U1 1 | exact U1 2 | ((with_reducible apply v_ld_sh); exact rfl; exact rfl; exact rfl; exact (hm1.mono (by (repeat first | exact MLe.refl _ | assumption | refine MLe.trans ?_ ‹MLe _ _›))); exact rfl) | ((with_reducible apply v_ld_sh); exact rfl; exact rfl; exact rfl; exact (hm2.mono (by (repeat first | exact MLe.refl _ | assumption | refine MLe.trans ?_ ‹MLe _ _›))); exact rfl)) (c := ?_)) | refine KI ?_ | refine NB fun b => ?_ | ((refine KB ?_ ?_ <;> intro hp)) | refine KG ?_ | fail)
    all_goals first | (refine ret_s rfl rfl ?_; simp_all; done) | (exfalso; simp_all; done) | (exfalso; omega)
end Go.Proofs.YtfabmichdhbiaaaGreatDoor
namespace Go.Proofs.YtfabmichdhbiaaaGreatDoor
open Go.RowKit Go.Vcg
attribute [local irreducible] fitP fewP propT patternsT templB chainT G GC GQ GA GAop Calls IntKind.wrap Int.decLt Int.decLe
theorem ex_none (t : T) (u : Value) (w : World) (μ : Mem) (hμ : MOk μ w) (hk : KR μ t.kids u) (hs : t.size ≤ 100000) (hks : ∀ k ∈ t.kids, T.size k ≤ 100000 ∧ k.s.size ≤ 65536) (hop : t.op = 30 ∨ t.op = 31 ∨ t.op = 32 ∨ t.op = 33 ∨ t.op = 34 ∨ t.op = 35 ∨ t.op = 40) :
    Calls Tryz.prog 29 #[.agg (encT t u).toArray] w fun e w' => e = .returned (.bool (decide (t.kids.length = 0))) ∧ Below w.heap.size w w' := by
  have ho := hk.one
  obtain ⟨A, c, rfl, hlc, -⟩ := hk.form
  have hlen := kidsLe t
  refine call_intro (args := [.agg (encT t (.slice A t.kids.length c)).toArray]) Tryz.func29 rfl Tryz.ntmps29 (by simp) hμ ?_
  repeat' (first | refine KK ?_ | refine NB fun b => ?_ | ((refine KB ?_ ?_ <;> intro hp)) | refine KG ?_ | fail)
  all_goals first | exact ret_s rfl rfl rfl | (exfalso; omega) | (refine ret_s rfl rfl ?_; simp)
theorem ex_tmpl (t : T) (u : Value) (w : World) (μ : Mem) (hμ : MOk μ w) (hk : KR μ t.kids u) (hs : t.size ≤ 100000) (hks : ∀ k ∈ t.kids, T.size k ≤ 100000 ∧ k.s.size ≤ 65536) (hop : t.op = 36) :
    Calls Tryz.prog 29 #[.agg (encT t u).toArray] w fun e w' => e = .returned (.bool (templB exprT t.kids)) ∧ Below w.heap.size w w' := by
  have ho := hk.one
  obtain ⟨A, c, rfl, hlc, -⟩ := hk.form
  have hlen := kidsLe t
  refine call_intro (args := [.agg (encT t (.slice A t.kids.length c)).toArray]) Tryz.func29 rfl Tryz.ntmps29 (by simp) hμ ?_
  repeat' (first | refine KO ?_ | ((with_reducible apply F1 52); exact rfl; exact EN; (exact fun w μc hw hse => by have hle9 := hse.le; exact template_spec t.kids _ _ _ w μc hw (KR.mono (by (repeat first | exact MLe.refl _ | assumption | refine MLe.trans ?_ ‹MLe _ _›)) hk) rfl (by omega) hks)) | refine KI ?_ | refine NB fun b => ?_ | ((refine KB ?_ ?_ <;> intro hp)) | refine KG ?_ | fail)
  all_goals first | exact ret_s rfl rfl rfl | (exfalso; omega) | (refine ret_s rfl rfl ?_; simp)
theorem ex_array (t : T) (u : Value) (w : World) (μ : Mem) (hμ : MOk μ w) (hk : KR μ t.kids u) (hs : t.size ≤ 100000) (hks : ∀ k ∈ t.kids, T.size k ≤ 100000 ∧ k.s.size ≤ 65536) (hop : t.op = 37) :
    Calls Tryz.prog 29 #[.agg (encT t u).toArray] w fun e w' => e = .returned (.bool (fewP (eiT [exprT, ofT [40, 41]]) 0 (-1) t.kids)) ∧ Below w.heap.size w w' := by
  have ho := hk.one
  obtain ⟨A, c, rfl, hlc, -⟩ := hk.form
  have hlen := kidsLe t
  refine call_intro (args := [.agg (encT t (.slice A t.kids.length c)).toArray]) Tryz.func29 rfl Tryz.ntmps29 (by simp) hμ ?_
  repeat' (first | refine KO ?_ | (refine CF 56 ?_; (fail_if_success (have := hcq)); (with_reducible apply g_share); exact rfl; intro μsq hlesq hshq; (with_reducible apply g_enter_m); exact rfl; exact rfl; exact rfl; ((with_reducible apply e_call1); kernel_rfl; exact rfl); (exact fun w hw => of_spec [40, 41] _ _ _ w _ hw (sl_lit hshq rfl (by simp) (by repeat first | exact lc_nil | refine lc_cons rfl ?_)) (by omega)); rintro vq μq hleq hcq; (obtain ⟨fq, capq, rfl⟩ := Cls.form hcq)) | (refine CF 54 ?_; (fail_if_success (have := hcx)); (with_reducible apply g_share); exact rfl; intro μsx hlesx hshx; (with_reducible apply g_enter_m); exact rfl; exact rfl; exact rfl; ((with_reducible apply e_call1); kernel_rfl; exact rfl); (exact fun w hw => either_spec [.func (.func 55) #[] #[], .func (.func fq) #[] capq.toArray] [exprT, ofT [40, 41]] _ _ _ w _ hw (sl_lit hshx rfl (by simp) (by repeat first | exact lc_nil | refine lc_cons rfl ?_)) (Clss.cons (cls_expression _) (Clss.cons (Cls.mono hcq (by (repeat first | exact MLe.refl _ | assumption | refine MLe.trans ?_ ‹MLe _ _›))) (Clss.nil _))) (by omega)); rintro vx μx hlex hcx; (obtain ⟨fx, capx, rfl⟩ := Cls.form hcx)) | ((with_reducible apply F1 53); exact rfl; exact EN; (exact fun w μc hw hse => by have hle9 := hse.le; exact few_spec' (eiT [exprT, ofT [40, 41]]) _ _ _ t.kids _ _ _ w μc hw (Cls.mono hcx (by (repeat first | exact MLe.refl _ | assumption | refine MLe.trans ?_ ‹MLe _ _›))) (KR.mono (by (repeat first | exact MLe.refl _ | assumption | refine MLe.trans ?_ ‹MLe _ _›)) hk) rfl (by omega) hks)) | refine KI ?_ | refine NB fun b => ?_ | ((refine KB ?_ ?_ <;> intro hp)) | refine KG ?_ | fail)
  all_goals first | exact ret_s rfl rfl rfl | (exfalso; omega) | (refine ret_s rfl rfl ?_; simp)
theorem ex_object (t : T) (u : Value) (w : World) (μ : Mem) (hμ : MOk μ w) (hk : KR μ t.kids u) (hs : t.size ≤ 100000) (hks : ∀ k ∈ t.kids, T.size k ≤ 100000 ∧ k.s.size ≤ 65536) (hop : t.op = 38) :
    Calls Tryz.prog 29 #[.agg (encT t u).toArray] w fun e w' => e = .returned (.bool (fewP (ofT [39]) 0 (-1) t.kids)) ∧ Below w.heap.size w w' := by
  have ho := hk.one
  obtain ⟨A, c, rfl, hlc, -⟩ := hk.form
  have hlen := kidsLe t
  refine call_intro (args := [.agg (encT t (.slice A t.kids.length c)).toArray]) Tryz.func29 rfl Tryz.ntmps29 (by simp) hμ ?_
  repeat' (first | refine KO ?_ | (refine CF 56 ?_; (fail_if_success (have := hcq)); (with_reducible apply g_share); exact rfl; intro μsq hlesq hshq; (with_reducible apply g_enter_m); exact rfl; exact rfl; exact rfl; ((with_reducible apply e_call1); kernel_rfl; exact rfl); (exact fun w hw => of_spec [39] _ _ _ w _ hw (sl_lit hshq rfl (by simp) (by repeat first | exact lc_nil | refine lc_cons rfl ?_)) (by omega)); rintro vq μq hleq hcq; (obtain ⟨fq, capq, rfl⟩ := Cls.form hcq)) | ((with_reducible apply F1 53); exact rfl; exact EN; (exact fun w μc hw hse => by have hle9 := hse.le; exact few_spec' (ofT [39]) _ _ _ t.kids _ _ _ w μc hw (Cls.mono hcq (by (repeat first | exact MLe.refl _ | assumption | refine MLe.trans ?_ ‹MLe _ _›))) (KR.mono (by (repeat first | exact MLe.refl _ | assumption | refine MLe.trans ?_ ‹MLe _ _›)) hk) rfl (by omega) hks)) | refine KI ?_ | refine NB fun b => ?_ | ((refine KB ?_ ?_ <;> intro hp)) | refine KG ?_ | fail)
  all_goals first | exact ret_s rfl rfl rfl | (exfalso; omega) | (refine ret_s rfl rfl ?_; simp)
theorem ex_prop (t : T) (u : Value) (w : World) (μ : Mem) (hμ : MOk μ w) (hk : KR μ t.kids u) (hs : t.size ≤ 100000) (hks : ∀ k ∈ t.kids, T.size k ≤ 100000 ∧ k.s.size ≤ 65536) (hop : t.op = 39) :
    Calls Tryz.prog 29 #[.agg (encT t u).toArray] w fun e w' => e = .returned (.bool (propT t)) ∧ Below w.heap.size w w' := by
  have ho := hk.one
  obtain ⟨A, c, rfl, hlc, -⟩ := hk.form
  have hlen := kidsLe t
  refine call_intro (args := [.agg (encT t (.slice A t.kids.length c)).toArray]) Tryz.func29 rfl Tryz.ntmps29 (by simp) hμ ?_
  repeat' (first | refine KO ?_ | ((with_reducible apply F1 57); exact rfl; exact EN; (exact fun w μc hw hse => by have hle9 := hse.le; exact prop_spec t _ w μc hw (KR.mono (by (repeat first | exact MLe.refl _ | assumption | refine MLe.trans ?_ ‹MLe _ _›)) hk) hs hks)) | refine KI ?_ | refine NB fun b => ?_ | ((refine KB ?_ ?_ <;> intro hp)) | refine KG ?_ | fail)
  all_goals first | exact ret_s rfl rfl rfl | (exfalso; omega) | (refine ret_s rfl rfl ?_; simp)
theorem ex_spread (t : T) (u : Value) (w : World) (μ : Mem) (hμ : MOk μ w) (hk : KR μ t.kids u) (hs : t.size ≤ 100000) (hks : ∀ k ∈ t.kids, T.size k ≤ 100000 ∧ k.s.size ≤ 65536) (hop : t.op = 41 ∨ t.op = 42) :
    Calls Tryz.prog 29 #[.agg (encT t u).toArray] w fun e w' => e = .returned (.bool (fitP (eachP [exprT]) t.kids)) ∧ Below w.heap.size w w' := by
  have ho := hk.one
  obtain ⟨A, c, rfl, hlc, -⟩ := hk.form
  have hlen := kidsLe t
  refine call_intro (args := [.agg (encT t (.slice A t.kids.length c)).toArray]) Tryz.func29 rfl Tryz.ntmps29 (by simp) hμ ?_
  repeat' (first | refine KO ?_ | ((with_reducible apply F3 59); exact rfl; exact EN; (exact fun w μc hw hse => by have hle9 := hse.le; exact each_spec [.func (.func 55) #[] #[]] _ _ _ w μc hw (sl_lit hse.hd rfl (by simp) (by repeat first | exact lc_nil | refine lc_cons rfl ?_)) (Clss.forms (μ := μc) (ps := [exprT]) (Clss.cons (cls_expression _) (Clss.nil _))) (by omega)); intro v9; (with_reducible apply g_rowOk 0); exact rfl; rintro A9 c9 rfl hok9) | ((with_reducible apply F1 58); exact rfl; exact EN; (exact fun w μc hw hse => by have hle9 := hse.le; exact fits_each [.func (.func 55) #[] #[]] [exprT] t.kids _ _ _ _ _ w μc hw (KR.mono (by (repeat first | exact MLe.refl _ | assumption | refine MLe.trans ?_ ‹MLe _ _›)) hk) rfl (by omega) (sl_of_row (enc := encP) (xs := [.func (.func 55) #[] #[]].map fun v => (v, (0 : Int))) hse.hd rfl (by simp) rfl) rfl (by decide) (Clss.cons (cls_expression _) (Clss.nil _)) hks)) | refine KI ?_ | refine NB fun b => ?_ | ((refine KB ?_ ?_ <;> intro hp)) | refine KG ?_ | fail)
  all_goals first | exact ret_s rfl rfl rfl | (exfalso; omega) | (refine ret_s rfl rfl ?_; simp)
theorem ex_update (t : T) (u : Value) (w : World) (μ : Mem) (hμ : MOk μ w) (hk : KR μ t.kids u) (hs : t.size ≤ 100000) (hks : ∀ k ∈ t.kids, T.size k ≤ 100000 ∧ k.s.size ≤ 65536) (hop : t.op = 43) :
    Calls Tryz.prog 29 #[.agg (encT t u).toArray] w fun e w' => e = .returned (.bool (fitP (eachP [simpleT]) t.kids)) ∧ Below w.heap.size w w' := by
  have ho := hk.one
  obtain ⟨A, c, rfl, hlc, -⟩ := hk.form
  have hlen := kidsLe t
  refine call_intro (args := [.agg (encT t (.slice A t.kids.length c)).toArray]) Tryz.func29 rfl Tryz.ntmps29 (by simp) hμ ?_
  repeat' (first | refine KO ?_ | ((with_reducible apply F3 59); exact rfl; exact EN; (exact fun w μc hw hse => by have hle9 := hse.le; exact each_spec [.func (.func 60) #[] #[]] _ _ _ w μc hw (sl_lit hse.hd rfl (by simp) (by repeat first | exact lc_nil | refine lc_cons rfl ?_)) (Clss.forms (μ := μc) (ps := [simpleT]) (Clss.cons (cls_simple _) (Clss.nil _))) (by omega)); intro v9; (with_reducible apply g_rowOk 0); exact rfl; rintro A9 c9 rfl hok9) | ((with_reducible apply F1 58); exact rfl; exact EN; (exact fun w μc hw hse => by have hle9 := hse.le; exact fits_each [.func (.func 60) #[] #[]] [simpleT] t.kids _ _ _ _ _ w μc hw (KR.mono (by (repeat first | exact MLe.refl _ | assumption | refine MLe.trans ?_ ‹MLe _ _›)) hk) rfl (by omega) (sl_of_row (enc := encP) (xs := [.func (.func 60) #[] #[]].map fun v => (v, (0 : Int))) hse.hd rfl (by simp) rfl) rfl (by decide) (Clss.cons (cls_simple _) (Clss.nil _)) hks)) | refine KI ?_ | refine NB fun b => ?_ | ((refine KB ?_ ?_ <;> intro hp)) | refine KG ?_ | fail)
  all_goals first | exact ret_s rfl rfl rfl | (exfalso; omega) | (refine ret_s rfl rfl ?_; simp)
theorem ex_bin (t : T) (u : Value) (w : World) (μ : Mem) (hμ : MOk μ w) (hk : KR μ t.kids u) (hs : t.size ≤ 100000) (hks : ∀ k ∈ t.kids, T.size k ≤ 100000 ∧ k.s.size ≤ 65536) (hop : t.op = 44 ∨ t.op = 45 ∨ t.op = 52) :
    Calls Tryz.prog 29 #[.agg (encT t u).toArray] w fun e w' => e = .returned (.bool (fewP exprT 2 2 t.kids)) ∧ Below w.heap.size w w' := by
  have ho := hk.one
  obtain ⟨A, c, rfl, hlc, -⟩ := hk.form
  have hlen := kidsLe t
  refine call_intro (args := [.agg (encT t (.slice A t.kids.length c)).toArray]) Tryz.func29 rfl Tryz.ntmps29 (by simp) hμ ?_
  repeat' (first | refine KO ?_ | ((with_reducible apply F1 53); exact rfl; exact EN; (exact fun w μc hw hse => by have hle9 := hse.le; exact few_spec' (exprT) _ _ _ t.kids _ _ _ w μc hw (cls_expression _) (KR.mono (by (repeat first | exact MLe.refl _ | assumption | refine MLe.trans ?_ ‹MLe _ _›)) hk) rfl (by omega) hks)) | refine KI ?_ | refine NB fun b => ?_ | ((refine KB ?_ ?_ <;> intro hp)) | refine KG ?_ | fail)
  all_goals first | exact ret_s rfl rfl rfl | (exfalso; omega) | (refine ret_s rfl rfl ?_; simp)
theorem ex_assignT (t : T) (u : Value) (w : World) (μ : Mem) (hμ : MOk μ w) (hk : KR μ t.kids u) (hs : t.size ≤ 100000) (hks : ∀ k ∈ t.kids, T.size k ≤ 100000 ∧ k.s.size ≤ 65536) (hop : t.op = 46) (hss : t.s = ⟨#[61]⟩) :
    Calls Tryz.prog 29 #[.agg (encT t u).toArray] w fun e w' => e = .returned (.bool (fitP (eachP [targetT, exprT]) t.kids)) ∧ Below w.heap.size w w' := by
  have ho := hk.one
  obtain ⟨A, c, rfl, hlc, -⟩ := hk.form
  have hlen := kidsLe t
  refine call_intro (args := [.agg (encT t (.slice A t.kids.length c)).toArray]) Tryz.func29 rfl Tryz.ntmps29 (by simp) hμ ?_
  repeat' (first | refine KO ?_ | ((with_reducible apply F3 59); exact rfl; exact EN; (exact fun w μc hw hse => by have hle9 := hse.le; exact each_spec [.func (.func 61) #[] #[], .func (.func 55) #[] #[]] _ _ _ w μc hw (sl_lit hse.hd rfl (by simp) (by repeat first | exact lc_nil | refine lc_cons rfl ?_)) (Clss.forms (μ := μc) (ps := [targetT, exprT]) (Clss.cons (cls_target _) (Clss.cons (cls_expression _) (Clss.nil _)))) (by omega)); intro v9; (with_reducible apply g_rowOk 0); exact rfl; rintro A9 c9 rfl hok9) | ((with_reducible apply F1 58); exact rfl; exact EN; (exact fun w μc hw hse => by have hle9 := hse.le; exact fits_each [.func (.func 61) #[] #[], .func (.func 55) #[] #[]] [targetT, exprT] t.kids _ _ _ _ _ w μc hw (KR.mono (by (repeat first | exact MLe.refl _ | assumption | refine MLe.trans ?_ ‹MLe _ _›)) hk) rfl (by omega) (sl_of_row (enc := encP) (xs := [.func (.func 61) #[] #[], .func (.func 55) #[] #[]].map fun v => (v, (0 : Int))) hse.hd rfl (by simp) rfl) rfl (by decide) (Clss.cons (cls_target _) (Clss.cons (cls_expression _) (Clss.nil _))) hks)) | refine KI ?_ | refine NB fun b => ?_ | ((refine KB ?_ ?_ <;> intro hp)) | refine KG ?_ | fail)
  all_goals first | exact ret_s rfl rfl rfl | (exfalso; omega) | exact absurd ‹t.s = _› hss | exact absurd hss ‹t.s ≠ _› | (refine ret_s rfl rfl ?_; simp)
theorem ex_assignS (t : T) (u : Value) (w : World) (μ : Mem) (hμ : MOk μ w) (hk : KR μ t.kids u) (hs : t.size ≤ 100000) (hks : ∀ k ∈ t.kids, T.size k ≤ 100000 ∧ k.s.size ≤ 65536) (hop : t.op = 46) (hss : t.s ≠ ⟨#[61]⟩) :
    Calls Tryz.prog 29 #[.agg (encT t u).toArray] w fun e w' => e = .returned (.bool (fitP (eachP [simpleT, exprT]) t.kids)) ∧ Below w.heap.size w w' := by
  have ho := hk.one
  obtain ⟨A, c, rfl, hlc, -⟩ := hk.form
  have hlen := kidsLe t
  refine call_intro (args := [.agg (encT t (.slice A t.kids.length c)).toArray]) Tryz.func29 rfl Tryz.ntmps29 (by simp) hμ ?_
  repeat' (first | refine KO ?_ | ((with_reducible apply F3 59); exact rfl; exact EN; (exact fun w μc hw hse => by have hle9 := hse.le; exact each_spec [.func (.func 60) #[] #[], .func (.func 55) #[] #[]] _ _ _ w μc hw (sl_lit hse.hd rfl (by simp) (by repeat first | exact lc_nil | refine lc_cons rfl ?_)) (Clss.forms (μ := μc) (ps := [simpleT, exprT]) (Clss.cons (cls_simple _) (Clss.cons (cls_expression _) (Clss.nil _)))) (by omega)); intro v9; (with_reducible apply g_rowOk 0); exact rfl; rintro A9 c9 rfl hok9) | ((with_reducible apply F1 58); exact rfl; exact EN; (exact fun w μc hw hse => by have hle9 := hse.le; exact fits_each [.func (.func 60) #[] #[], .func (.func 55) #[] #[]] [simpleT, exprT] t.kids _ _ _ _ _ w μc hw (KR.mono (by (repeat first | exact MLe.refl _ | assumption | refine MLe.trans ?_ ‹MLe _ _›)) hk) rfl (by omega) (sl_of_row (enc := encP) (xs := [.func (.func 60) #[] #[], .func (.func 55) #[] #[]].map fun v => (v, (0 : Int))) hse.hd rfl (by simp) rfl) rfl (by decide) (Clss.cons (cls_simple _) (Clss.cons (cls_expression _) (Clss.nil _))) hks)) | refine KI ?_ | refine NB fun b => ?_ | ((refine KB ?_ ?_ <;> intro hp)) | refine KG ?_ | fail)
  all_goals first | exact ret_s rfl rfl rfl | (exfalso; omega) | exact absurd ‹t.s = _› hss | exact absurd hss ‹t.s ≠ _› | (refine ret_s rfl rfl ?_; simp)
theorem ex_cond (t : T) (u : Value) (w : World) (μ : Mem) (hμ : MOk μ w) (hk : KR μ t.kids u) (hs : t.size ≤ 100000) (hks : ∀ k ∈ t.kids, T.size k ≤ 100000 ∧ k.s.size ≤ 65536) (hop : t.op = 47) :
    Calls Tryz.prog 29 #[.agg (encT t u).toArray] w fun e w' => e = .returned (.bool (fewP exprT 3 3 t.kids)) ∧ Below w.heap.size w w' := by
  have ho := hk.one
  obtain ⟨A, c, rfl, hlc, -⟩ := hk.form
  have hlen := kidsLe t
  refine call_intro (args := [.agg (encT t (.slice A t.kids.length c)).toArray]) Tryz.func29 rfl Tryz.ntmps29 (by simp) hμ ?_
  repeat' (first | refine KO ?_ | ((with_reducible apply F1 53); exact rfl; exact EN; (exact fun w μc hw hse => by have hle9 := hse.le; exact few_spec' (exprT) _ _ _ t.kids _ _ _ w μc hw (cls_expression _) (KR.mono (by (repeat first | exact MLe.refl _ | assumption | refine MLe.trans ?_ ‹MLe _ _›)) hk) rfl (by omega) hks)) | refine KI ?_ | refine NB fun b => ?_ | ((refine KB ?_ ?_ <;> intro hp)) | refine KG ?_ | fail)
  all_goals first | exact ret_s rfl rfl rfl | (exfalso; omega) | (refine ret_s rfl rfl ?_; simp)
theorem ex_seq (t : T) (u : Value) (w : World) (μ : Mem) (hμ : MOk μ w) (hk : KR μ t.kids u) (hs : t.size ≤ 100000) (hks : ∀ k ∈ t.kids, T.size k ≤ 100000 ∧ k.s.size ≤ 65536) (hop : t.op = 48) :
    Calls Tryz.prog 29 #[.agg (encT t u).toArray] w fun e w' => e = .returned (.bool (fewP exprT 2 (-1) t.kids)) ∧ Below w.heap.size w w' := by
  have ho := hk.one
  obtain ⟨A, c, rfl, hlc, -⟩ := hk.form
  have hlen := kidsLe t
  refine call_intro (args := [.agg (encT t (.slice A t.kids.length c)).toArray]) Tryz.func29 rfl Tryz.ntmps29 (by simp) hμ ?_
  repeat' (first | refine KO ?_ | ((with_reducible apply F1 53); exact rfl; exact EN; (exact fun w μc hw hse => by have hle9 := hse.le; exact few_spec' (exprT) _ _ _ t.kids _ _ _ w μc hw (cls_expression _) (KR.mono (by (repeat first | exact MLe.refl _ | assumption | refine MLe.trans ?_ ‹MLe _ _›)) hk) rfl (by omega) hks)) | refine KI ?_ | refine NB fun b => ?_ | ((refine KB ?_ ?_ <;> intro hp)) | refine KG ?_ | fail)
  all_goals first | exact ret_s rfl rfl rfl | (exfalso; omega) | (refine ret_s rfl rfl ?_; simp)
theorem ex_call (t : T) (u : Value) (w : World) (μ : Mem) (hμ : MOk μ w) (hk : KR μ t.kids u) (hs : t.size ≤ 100000) (hks : ∀ k ∈ t.kids, T.size k ≤ 100000 ∧ k.s.size ≤ 65536) (hop : t.op = 49 ∨ t.op = 50) :
    Calls Tryz.prog 29 #[.agg (encT t u).toArray] w fun e w' => e = .returned (.bool (fitP [(exprT, 0), (argsT, 2)] t.kids)) ∧ Below w.heap.size w w' := by
  have ho := hk.one
  obtain ⟨A, c, rfl, hlc, -⟩ := hk.form
  have hlen := kidsLe t
  refine call_intro (args := [.agg (encT t (.slice A t.kids.length c)).toArray]) Tryz.func29 rfl Tryz.ntmps29 (by simp) hμ ?_
  repeat' (first | refine KO ?_ | (refine CF 62 ?_; (fail_if_success (have := hck)); (with_reducible apply g_enter_m); exact rfl; exact rfl; exact rfl; ((with_reducible apply e_call0); kernel_rfl); (exact fun w hw => args_spec w _ hw); rintro vk μk hlek hck; (obtain ⟨fk, capk, rfl⟩ := Cls.form hck)) | ((with_reducible apply F1 58); exact rfl; exact EN; (exact fun w μc hw hse => by have hle9 := hse.le; exact fits_rows [(.func (.func 55) #[] #[], 0), (.func (.func fk) #[] capk.toArray, 2)] [(exprT, 0), (argsT, 2)] t.kids _ _ _ _ _ w μc hw (KR.mono (by (repeat first | exact MLe.refl _ | assumption | refine MLe.trans ?_ ‹MLe _ _›)) hk) rfl (by omega) (sl_lit hse.hd rfl (by simp) (by repeat first | exact lc_nil | refine lc_cons rfl ?_)) rfl (by decide) (Rws.cons (cls_expression _) (Rws.cons (Cls.mono hck (by (repeat first | exact MLe.refl _ | assumption | refine MLe.trans ?_ ‹MLe _ _›))) (Rws.nil _))) hks)) | refine KI ?_ | refine NB fun b => ?_ | ((refine KB ?_ ?_ <;> intro hp)) | refine KG ?_ | fail)
  all_goals first | exact ret_s rfl rfl rfl | (exfalso; omega) | (refine ret_s rfl rfl ?_; simp)
theorem ex_dot (t : T) (u : Value) (w : World) (μ : Mem) (hμ : MOk μ w) (hk : KR μ t.kids u) (hs : t.size ≤ 100000) (hks : ∀ k ∈ t.kids, T.size k ≤ 100000 ∧ k.s.size ≤ 65536) (hop : t.op = 51) :
    Calls Tryz.prog 29 #[.agg (encT t u).toArray] w fun e w' => e = .returned (.bool (fewP exprT 1 1 t.kids)) ∧ Below w.heap.size w w' := by
  have ho := hk.one
  obtain ⟨A, c, rfl, hlc, -⟩ := hk.form
  have hlen := kidsLe t
  refine call_intro (args := [.agg (encT t (.slice A t.kids.length c)).toArray]) Tryz.func29 rfl Tryz.ntmps29 (by simp) hμ ?_
  repeat' (first | refine KO ?_ | ((with_reducible apply F1 53); exact rfl; exact EN; (exact fun w μc hw hse => by have hle9 := hse.le; exact few_spec' (exprT) _ _ _ t.kids _ _ _ w μc hw (cls_expression _) (KR.mono (by (repeat first | exact MLe.refl _ | assumption | refine MLe.trans ?_ ‹MLe _ _›)) hk) rfl (by omega) hks)) | refine KI ?_ | refine NB fun b => ?_ | ((refine KB ?_ ?_ <;> intro hp)) | refine KG ?_ | fail)
  all_goals first | exact ret_s rfl rfl rfl | (exfalso; omega) | (refine ret_s rfl rfl ?_; simp)
theorem ex_chain (t : T) (u : Value) (w : World) (μ : Mem) (hμ : MOk μ w) (hk : KR μ t.kids u) (hs : t.size ≤ 100000) (hks : ∀ k ∈ t.kids, T.size k ≤ 100000 ∧ k.s.size ≤ 65536) (hop : t.op = 53) (hsh : ∀ k ∈ t.kids, Sh' k) :
    Calls Tryz.prog 29 #[.agg (encT t u).toArray] w fun e w' => e = .returned (.bool (chainT t.kids)) ∧ Below w.heap.size w w' := by
  have ho := hk.one
  obtain ⟨A, c, rfl, hlc, -⟩ := hk.form
  have hlen := kidsLe t
  refine call_intro (args := [.agg (encT t (.slice A t.kids.length c)).toArray]) Tryz.func29 rfl Tryz.ntmps29 (by simp) hμ ?_
  repeat' (first | refine KO ?_ | ((with_reducible apply F1 63); exact rfl; exact EN; (exact fun w μc hw hse => by have hle9 := hse.le; exact chain_spec t.kids _ _ _ w μc hw (KR.mono (by (repeat first | exact MLe.refl _ | assumption | refine MLe.trans ?_ ‹MLe _ _›)) hk) rfl (by omega) (fun k hk => ⟨(hks k hk).1, hsh k hk⟩))) | refine KI ?_ | refine NB fun b => ?_ | ((refine KB ?_ ?_ <;> intro hp)) | refine KG ?_ | fail)
  all_goals first | exact ret_s rfl rfl rfl | (exfalso; omega) | (refine ret_s rfl rfl ?_; simp)
theorem ex_yield (t : T) (u : Value) (w : World) (μ : Mem) (hμ : MOk μ w) (hk : KR μ t.kids u) (hs : t.size ≤ 100000) (hks : ∀ k ∈ t.kids, T.size k ≤ 100000 ∧ k.s.size ≤ 65536) (hop : t.op = 54) :
    Calls Tryz.prog 29 #[.agg (encT t u).toArray] w fun e w' => e = .returned (.bool (fewP exprT t.n 1 t.kids)) ∧ Below w.heap.size w w' := by
  have ho := hk.one
  obtain ⟨A, c, rfl, hlc, -⟩ := hk.form
  have hlen := kidsLe t
  refine call_intro (args := [.agg (encT t (.slice A t.kids.length c)).toArray]) Tryz.func29 rfl Tryz.ntmps29 (by simp) hμ ?_
  repeat' (first | refine KO ?_ | ((with_reducible apply F1 53); exact rfl; exact EN; (exact fun w μc hw hse => by have hle9 := hse.le; exact few_spec' (exprT) _ _ _ t.kids _ _ _ w μc hw (cls_expression _) (KR.mono (by (repeat first | exact MLe.refl _ | assumption | refine MLe.trans ?_ ‹MLe _ _›)) hk) rfl (by omega) hks)) | refine KI ?_ | refine NB fun b => ?_ | ((refine KB ?_ ?_ <;> intro hp)) | refine KG ?_ | fail)
  all_goals first | exact ret_s rfl rfl rfl | (exfalso; omega) | (refine ret_s rfl rfl ?_; simp)
theorem ex_rest (t : T) (u : Value) (w : World) (μ : Mem) (hμ : MOk μ w) (hk : KR μ t.kids u) (hs : t.size ≤ 100000) (hks : ∀ k ∈ t.kids, T.size k ≤ 100000 ∧ k.s.size ≤ 65536) (hop : t.op ≠ 30 ∧ t.op ≠ 31 ∧ t.op ≠ 32 ∧ t.op ≠ 33 ∧ t.op ≠ 34 ∧ t.op ≠ 35 ∧ t.op ≠ 36 ∧ t.op ≠ 37 ∧ t.op ≠ 38 ∧ t.op ≠ 39 ∧ t.op ≠ 40 ∧ t.op ≠ 41 ∧ t.op ≠ 42 ∧ t.op ≠ 43 ∧ t.op ≠ 44 ∧ t.op ≠ 45 ∧ t.op ≠ 46 ∧ t.op ≠ 47 ∧ t.op ≠ 48 ∧ t.op ≠ 49 ∧ t.op ≠ 50 ∧ t.op ≠ 51 ∧ t.op ≠ 52 ∧ t.op ≠ 53 ∧ t.op ≠ 54) :
    Calls Tryz.prog 29 #[.agg (encT t u).toArray] w fun e w' => e = .returned (.bool (patternsT t)) ∧ Below w.heap.size w w' := by
  have ho := hk.one
  obtain ⟨A, c, rfl, hlc, -⟩ := hk.form
  have hlen := kidsLe t
  refine call_intro (args := [.agg (encT t (.slice A t.kids.length c)).toArray]) Tryz.func29 rfl Tryz.ntmps29 (by simp) hμ ?_
  repeat' (first | refine KO ?_ | ((with_reducible apply F1 64); exact rfl; exact EN; (exact fun w μc hw hse => by have hle9 := hse.le; exact patterns_spec t _ w μc hw (KR.mono (by (repeat first | exact MLe.refl _ | assumption | refine MLe.trans ?_ ‹MLe _ _›)) hk) hs hks)) | refine KI ?_ | refine NB fun b => ?_ | ((refine KB ?_ ?_ <;> intro hp)) | refine KG ?_ | fail)
  all_goals first | exact ret_s rfl rfl rfl | (exfalso; omega) | (refine ret_s rfl rfl ?_; simp)
end Go.Proofs.YtfabmichdhbiaaaGreatDoor
namespace Go.Proofs.YtfabmichdhbiaaaGreatDoor
open Go.RowKit Go.Vcg Go.Shelf
def eqsT (s : ByteArray) (ws : List (List UInt8)) : List Bool := ws.map fun l => decide (s = ⟨l.toArray⟩)
def oneT (s : ByteArray) (ws : List (List UInt8)) : Bool := (eqsT s ws).any id
def words42 : List (List UInt8) := [[100, 101, 108, 101, 116, 101], [118, 111, 105, 100], [116, 121, 112, 101, 111, 102], [43], [45], [33], [126]]
def words43 : List (List UInt8) := [[43, 43], [45, 45]]
def words44 : List (List UInt8) := [[124], [94], [38], [61, 61], [33, 61], [61, 61, 61], [33, 61, 61], [60], [62], [60, 61], [62, 61], [105, 110, 115, 116, 97, 110, 99, 101, 111, 102], [105, 110], [60, 60], [62, 62], [43], [45], [42], [47], [37]]
def words45 : List (List UInt8) := [[38, 38], [124, 124], [63, 63]]
def words46 : List (List UInt8) := [[61], [43, 61], [45, 61], [42, 61], [47, 61], [37, 61], [38, 61], [124, 61], [94, 61], [60, 60, 61], [62, 62, 61], [38, 38, 61], [124, 124, 61], [63, 63, 61]]
def mostT (op : Int) : Int :=
  if op = 1 ∨ op = 22 ∨ op = 32 ∨ op = 43 ∨ op = 49 ∨ op = 51 ∨ op = 52 ∨ op = 54 then 1 else if op = 2 then 2 else if op = 30 then 9007199254740992 else if op = 39 then 5 else 0
noncomputable def wordT (t : T) : Bool :=
  if t.op = 15 ∨ t.op = 16 then decide (t.s = ⟨#[]⟩) || formB t.s
  else if t.op = 23 ∨ t.op = 34 ∨ t.op = 51 then formB t.s
  else if t.op = 31 then true
  else if t.op = 42 then oneT t.s words42
  else if t.op = 43 then oneT t.s words43
  else if t.op = 44 then oneT t.s words44
  else if t.op = 45 then oneT t.s words45
  else if t.op = 46 then oneT t.s words46
  else decide (t.s = ⟨#[]⟩)
attribute [local irreducible] formB oneT G GC GQ GA GAop Calls IntKind.wrap Int.decLt Int.decLe
theorem indexS_spec (s : ByteArray) (ws : List (List UInt8)) (A : Option Addr) (n c : Nat) (w : World) (μ : Mem) (hμ : MOk μ w) (hS : Sl encB 1 μ A n ws) (hn : n ≤ 100000) :
    Calls Tryz.prog 74 #[.slice A n c, .string s] w fun e w' => e = .returned (.int .i64 (firstT (eqsT s ws))) ∧ Below w.heap.size w w' := by
  refine call_intro (args := [.slice A n c, .string s]) Tryz.func74 rfl Tryz.ntmps74 (by simp) hμ ?_
  have hqn : (eqsT s ws).length = n := by unfold eqsT; rw [List.length_map]; exact hS.1
  repeat' (first | refine KK ?_ | ((refine KB ?_ ?_ <;> intro hp)) | refine KG ?_ | fail)
  refine gc_loop (ι := Nat) (fun k => k ≤ n ∧ ∀ (j : Nat) (q : Bool), j < k → (eqsT s ws)[j]? = some q → q = false) (fun k => n - k) (fun _ => μ) (fun k => [(8, .int .i64 k), (7, .int .i64 n), (6, .slice A n c), (0, .slice A n c), (1, .string s)]) (fun _ => []) 0 ⟨by omega, fun j _ h => absurd h (by omega)⟩ (fun a w hs => J6 hs) ?_
  rintro k ⟨hk, hf⟩
  by_cases hlt : k < n
  · have hqk : (eqsT s ws)[k]? = some ((eqsT s ws)[k]'(by omega)) := List.getElem?_eq_getElem (by omega)
    generalize (eqsT s ws)[k]'(by omega) = q at hqk
    have hnext : q = false → ∀ (j : Nat) (q : Bool), j < k + 1 → (eqsT s ws)[j]? = some q → q = false := fun h j p hj hp => by
      rcases Nat.lt_or_ge j k with h1 | h1
      · exact hf j p h1 hp
      · obtain rfl : j = k := by omega
        rw [hqk] at hp
        cases hp
        exact h
    obtain ⟨ad, y, rfl, hy, hm⟩ := hS.get hlt
    have hqv : q = decide (s = ⟨y.toArray⟩) := by
      have h := hqk
      unfold eqsT at h
      rw [List.getElem?_map, hy] at h
      exact (Option.some.inj h).symm
    cases hq : q
    · have hb := hnext hq
      rw [hq] at hqv
      have hne : ¬ s = ⟨y.toArray⟩ := of_decide_eq_false hqv.symm
      repeat' (first | refine KO ?_ | (refine KV (b := by first | exact U1 k | exact U3 (hm.at 0 rfl)) (c := ?_)) | refine KI ?_ | ((refine KB ?_ ?_ <;> intro hp)) | refine KG ?_ | fail)
      all_goals first | exact J4 (k + 1) ⟨by omega, hb⟩ (by omega) | exact absurd ‹s = _› hne
    · rw [hq] at hqv hqk
      have he : s = ⟨y.toArray⟩ := of_decide_eq_true hqv.symm
      repeat' (first | refine KO ?_ | (refine KV (b := by first | exact U1 k | exact U3 (hm.at 0 rfl)) (c := ?_)) | refine KI ?_ | ((refine KB ?_ ?_ <;> intro hp)) | refine KG ?_ | fail)
      all_goals first | (refine ret_s rfl rfl ?_; rw [firstT_at hqk hf]) | exact absurd he ‹¬s = _› | exact absurd he ‹s ≠ _›
  · repeat' (first | refine KK ?_ | ((refine KB ?_ ?_ <;> intro hp)) | refine KG ?_ | fail)
    refine ret_s rfl rfl ?_
    rw [firstT_none fun j q hq => hf j q (by have := (List.getElem?_eq_some_iff.1 hq).1; omega) hq]
theorem containsS_spec (s : ByteArray) (ws : List (List UInt8)) (A : Option Addr) (n c : Nat) (w : World) (μ : Mem) (hμ : MOk μ w) (hS : Sl encB 1 μ A n ws) (hn : n ≤ 100000) :
    Calls Tryz.prog 40 #[.slice A n c, .string s] w fun e w' => e = .returned (.bool (oneT s ws)) ∧ Below w.heap.size w w' := by
  refine call_intro (args := [.slice A n c, .string s]) Tryz.func40 rfl Tryz.ntmps40 (by simp) hμ ?_
  rw [show oneT s ws = decide (0 ≤ firstT (eqsT s ws)) from by rw [firstT_any]; unfold oneT; rfl]
  repeat' (first | refine KO ?_ | ((with_reducible apply C1); exact rfl; exact EN; exact fun w μc hw hse => indexS_spec s ws A n c w μc hw (hS.mono hse.le) hn) | refine KI ?_ | ((refine KB ?_ ?_ <;> intro hp)) | refine KG ?_ | fail)
  exact ret_s rfl rfl rfl
theorem one_spec (s l : ByteArray) (ws : List (List UInt8)) (hs : Nat.blt l.data.toList.length 4294967281 = true) (ha : l.data.toList.all (fun b => Nat.blt b.toNat 128) = true) (hf : Lib.fields l.data.toList = ws) (hwn : ws.length ≤ 100000) (w : World) (μ : Mem) (hμ : MOk μ w) (hT : TabA μ) :
    Calls Tryz.prog 88 #[.string s, .string l] w fun e w' => e = .returned (.bool (oneT s ws)) ∧ Below w.heap.size w w' := by
  refine call_intro (args := [.string s, .string l]) Tryz.func88 rfl Tryz.ntmps88 (by simp) hμ ?_
  repeat' (first | refine KO ?_ | ((with_reducible apply F2 85); exact rfl; exact EN; (exact fun w hw => fields_spec l ws hs ha hf w _ hw hT); rintro v2 μ2 hle2 ⟨bf, rfl, hS⟩) | ((with_reducible apply C1); exact rfl; exact EN; exact fun w μc hw hse => containsS_spec s ws _ _ _ w μc hw (hS.mono hse.le) hwn) | refine KI ?_ | ((refine KB ?_ ?_ <;> intro hp)) | refine KG ?_ | fail)
  exact ret_s rfl rfl rfl
theorem most_spec (op : Int) (w : World) (μ : Mem) (hμ : MOk μ w) :
    Calls Tryz.prog 50 #[.int .i64 op] w fun e w' => e = .returned (.int .i64 (mostT op)) ∧ Below w.heap.size w w' := by
  refine call_intro (args := [.int .i64 op]) Tryz.func50 rfl Tryz.ntmps50 (by simp) hμ ?_
  repeat' (first | refine KK ?_ | ((refine KB ?_ ?_ <;> intro hp)) | refine KG ?_ | fail)
  all_goals (refine ret_s rfl rfl ?_; simp_all [mostT])
noncomputable def knownT (op : Int) : Bool := decide ((⟨(nameB op).toArray⟩ : ByteArray) ≠ ⟨#[]⟩)
theorem known_spec (op : Int) (hop : -9223372036854775808 ≤ op ∧ op ≤ 9223372036854775807) (w : World) (μ : Mem) (hμ : MOk μ w) (hT : TabA μ) :
    Calls Tryz.prog 26 #[.int .i64 op] w fun e w' => e = .returned (.bool (knownT op)) ∧ Below w.heap.size w w' := by
  refine call_intro (args := [.int .i64 op]) Tryz.func26 rfl Tryz.ntmps26 (by simp) hμ ?_
  repeat' (first | refine KO ?_ | ((with_reducible apply C1); exact rfl; exact EN; exact fun w μc hw hse => name_spec op hop w μc hw (hT.mono hse.le)) | refine KI ?_ | ((refine KB ?_ ?_ <;> intro hp)) | refine KG ?_ | fail)
  exact ret_s rfl rfl rfl
theorem wd_42 (t : T) (u : Value) (w : World) (μ : Mem) (hμ : MOk μ w) (hk : KR μ t.kids u) (hT : TabA μ) (hop : t.op = 42) :
    Calls Tryz.prog 51 #[.agg (encT t u).toArray] w fun e w' => e = .returned (.bool (oneT t.s words42)) ∧ Below w.heap.size w w' := by
  have ho := hk.one
  refine call_intro (args := [.agg (encT t u).toArray]) Tryz.func51 rfl Tryz.ntmps51 (by simp) hμ ?_
  repeat' (first | refine KO ?_ | ((with_reducible apply F1 88); exact rfl; exact EN; exact fun w μc hw hse => one_spec t.s _ words42 (by kernel_rfl) (by kernel_rfl) (by kernel_rfl) (by decide) w μc hw (hT.mono hse.le)) | refine KI ?_ | refine NB fun b => ?_ | ((refine KB ?_ ?_ <;> intro hp)) | refine KG ?_ | fail)
  all_goals first | exact ret_s rfl rfl rfl | (exfalso; omega)
theorem wd_43 (t : T) (u : Value) (w : World) (μ : Mem) (hμ : MOk μ w) (hk : KR μ t.kids u) (hT : TabA μ) (hop : t.op = 43) :
    Calls Tryz.prog 51 #[.agg (encT t u).toArray] w fun e w' => e = .returned (.bool (oneT t.s words43)) ∧ Below w.heap.size w w' := by
  have ho := hk.one
  refine call_intro (args := [.agg (encT t u).toArray]) Tryz.func51 rfl Tryz.ntmps51 (by simp) hμ ?_
  repeat' (first | refine KO ?_ | ((with_reducible apply F1 88); exact rfl; exact EN; exact fun w μc hw hse => one_spec t.s _ words43 (by kernel_rfl) (by kernel_rfl) (by kernel_rfl) (by decide) w μc hw (hT.mono hse.le)) | refine KI ?_ | refine NB fun b => ?_ | ((refine KB ?_ ?_ <;> intro hp)) | refine KG ?_ | fail)
  all_goals first | exact ret_s rfl rfl rfl | (exfalso; omega)
theorem wd_44 (t : T) (u : Value) (w : World) (μ : Mem) (hμ : MOk μ w) (hk : KR μ t.kids u) (hT : TabA μ) (hop : t.op = 44) :
    Calls Tryz.prog 51 #[.agg (encT t u).toArray] w fun e w' => e = .returned (.bool (oneT t.s words44)) ∧ Below w.heap.size w w' := by
  have ho := hk.one
  refine call_intro (args := [.agg (encT t u).toArray]) Tryz.func51 rfl Tryz.ntmps51 (by simp) hμ ?_
  repeat' (first | refine KO ?_ | ((with_reducible apply F1 88); exact rfl; exact EN; exact fun w μc hw hse => one_spec t.s _ words44 (by kernel_rfl) (by kernel_rfl) (by kernel_rfl) (by decide) w μc hw (hT.mono hse.le)) | refine KI ?_ | refine NB fun b => ?_ | ((refine KB ?_ ?_ <;> intro hp)) | refine KG ?_ | fail)
  all_goals first | exact ret_s rfl rfl rfl | (exfalso; omega)
theorem wd_45 (t : T) (u : Value) (w : World) (μ : Mem) (hμ : MOk μ w) (hk : KR μ t.kids u) (hT : TabA μ) (hop : t.op = 45) :
    Calls Tryz.prog 51 #[.agg (encT t u).toArray] w fun e w' => e = .returned (.bool (oneT t.s words45)) ∧ Below w.heap.size w w' := by
  have ho := hk.one
  refine call_intro (args := [.agg (encT t u).toArray]) Tryz.func51 rfl Tryz.ntmps51 (by simp) hμ ?_
  repeat' (first | refine KO ?_ | ((with_reducible apply F1 88); exact rfl; exact EN; exact fun w μc hw hse => one_spec t.s _ words45 (by kernel_rfl) (by kernel_rfl) (by kernel_rfl) (by decide) w μc hw (hT.mono hse.le)) | refine KI ?_ | refine NB fun b => ?_ | ((refine KB ?_ ?_ <;> intro hp)) | refine KG ?_ | fail)
  all_goals first | exact ret_s rfl rfl rfl | (exfalso; omega)
theorem wd_46 (t : T) (u : Value) (w : World) (μ : Mem) (hμ : MOk μ w) (hk : KR μ t.kids u) (hT : TabA μ) (hop : t.op = 46) :
    Calls Tryz.prog 51 #[.agg (encT t u).toArray] w fun e w' => e = .returned (.bool (oneT t.s words46)) ∧ Below w.heap.size w w' := by
  have ho := hk.one
  refine call_intro (args := [.agg (encT t u).toArray]) Tryz.func51 rfl Tryz.ntmps51 (by simp) hμ ?_
  repeat' (first | refine KO ?_ | ((with_reducible apply F1 88); exact rfl; exact EN; exact fun w μc hw hse => one_spec t.s _ words46 (by kernel_rfl) (by kernel_rfl) (by kernel_rfl) (by decide) w μc hw (hT.mono hse.le)) | refine KI ?_ | refine NB fun b => ?_ | ((refine KB ?_ ?_ <;> intro hp)) | refine KG ?_ | fail)
  all_goals first | exact ret_s rfl rfl rfl | (exfalso; omega)
theorem word_spec (t : T) (u : Value) (w : World) (μ : Mem) (hμ : MOk μ w) (hk : KR μ t.kids u) (hss : t.s.size ≤ 65536) (hT : TabA μ) :
    Calls Tryz.prog 51 #[.agg (encT t u).toArray] w fun e w' => e = .returned (.bool (wordT t)) ∧ Below w.heap.size w w' := by
  by_cases h42 : t.op = 42
  · simpa [wordT, h42] using wd_42 t u w μ hμ hk hT h42
  by_cases h43 : t.op = 43
  · simpa [wordT, h43] using wd_43 t u w μ hμ hk hT h43
  by_cases h44 : t.op = 44
  · simpa [wordT, h44] using wd_44 t u w μ hμ hk hT h44
  by_cases h45 : t.op = 45
  · simpa [wordT, h45] using wd_45 t u w μ hμ hk hT h45
  by_cases h46 : t.op = 46
  · simpa [wordT, h46] using wd_46 t u w μ hμ hk hT h46
  have ho := hk.one
  refine call_intro (args := [.agg (encT t u).toArray]) Tryz.func51 rfl Tryz.ntmps51 (by simp) hμ ?_
  repeat' (first | refine KO ?_ | ((with_reducible apply F1 86); exact rfl; exact EN; (exact fun w μc hw hse => form_spec t.s hss w μc hw)) | ((with_reducible apply F1 88); exact rfl; exact EN; fail) | refine KI ?_ | refine NB fun b => ?_ | ((refine KB ?_ ?_ <;> intro hp)) | refine KG ?_ | fail)
  all_goals first | (exfalso; omega) | (refine ret_s rfl rfl ?_; simp_all [wordT])
end Go.Proofs.YtfabmichdhbiaaaGreatDoor
