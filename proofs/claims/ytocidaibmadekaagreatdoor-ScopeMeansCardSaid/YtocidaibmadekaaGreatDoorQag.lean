/- tree.statements. No statement of the seat is proved here. -/
import Derived.Test.YtocidaibmadekaaGreatDoorQaf
set_option maxRecDepth 20000
set_option maxHeartbeats 2000000
namespace Go.Proofs.YtocidaibmadekaaGreatDoor
open Go.RowKit Go.Vcg
theorem VN (p : T → Bool) (l : List T) : gF p 0 1 l = (1, l) := by
  cases l with
  | nil => rfl
  | cons k r => rw [gF, if_neg (by simp)]
theorem uO {p : T → Bool} {ps : List (T → Bool)} {l : List T} (h : bC (bM (p :: ps)) l = true) : ∃ k r, l = k :: r ∧ p k = true ∧ bC (bM ps) r = true := by
  unfold bM at h
  rw [List.map_cons, bC] at h
  cases l with
  | nil => simp [gF] at h
  | cons k r =>
    cases hp : p k with
    | false =>
      have e : gF p 0 0 (k :: r) = (0, k :: r) := by rw [gF, if_neg (by simp [hp])]
      rw [e] at h
      simp at h
    | true =>
      have e : gF p 0 0 (k :: r) = (1, r) := by rw [gF, if_pos ⟨hp, .inl rfl⟩, VN]
      rw [e, if_neg (by simp)] at h
      exact ⟨k, r, rfl, hp, h⟩
theorem UT {l : List T} (h : bC (bM []) l = true) : l = [] := by
  unfold bM at h
  rw [List.map_nil, bC, decide_eq_true_eq] at h
  exact List.eq_nil_of_length_eq_zero h
def EL (l : List T) : Bool := bC (bM [ofT [6], ofT [20, 7], ofT [6, 7]]) l && (match l with | [_, y, z] => decide (y.op ≠ 7) || decide (z.op ≠ 7) | _ => false)
theorem aEv {a b c : T → Bool} {l : List T} (h : bC (bM [a, b, c]) l = true) : ∃ x y z, l = [x, y, z] := by
  obtain ⟨x, r, rfl, _, h⟩ := uO h
  obtain ⟨y, r, rfl, _, h⟩ := uO h
  obtain ⟨z, r, rfl, _, h⟩ := uO h
  rw [UT h]
  exact ⟨x, y, z, rfl⟩
attribute [local irreducible] bC dQ G GC GQ GA bX Calls IntKind.wrap Int.decLt Int.decLe
theorem aBc (t : T) (u : Value) (w : World) (μ : Mem) (hμ : MOk μ w) (hk : KR μ t.kids u) (hs : t.size ≤ 100000) (hks : ∀ k ∈ t.kids, T.size k ≤ 100000 ∧ k.s.size ≤ 65536) (hop : t.op = 19) :
    Calls Tryz.prog 80 #[.agg (aD t u).toArray] w fun e w' => e = .returned (.bool (EL t.kids)) ∧ Below w.heap.size w w' := by
  have ho := hk.one
  obtain ⟨A, c, rfl, hlc, hkid⟩ := hk.form
  have hlen := bK t
  refine aA (args := [.agg (aD t (.slice A t.kids.length c)).toArray]) Tryz.func80 rfl Tryz.ntmps80 (by simp) hμ ?_
  cases hB : bC (bM [ofT [6], ofT [20, 7], ofT [6, 7]]) t.kids
  · have hg : EL t.kids = false := by unfold EL; rw [hB, Bool.false_and]
    rw [hg]
    repeat' (first | refine KO ?_ | (refine CF 122 ?_; (fail_if_success (have := hce)); (with_reducible apply aW); exact rfl; intro μse hlese hshe; (with_reducible apply aG); (iterate 3 exact rfl); ((with_reducible apply aQ); kernel_rfl; exact rfl); (exact fun w hw => bE [7] _ _ _ w _ hw (aN hshe rfl (by simp) (by repeat first | exact aJ | refine aF rfl ?_)) (by omega)); rintro ve μe hlee hce; (obtain ⟨fe, cape, rfl⟩ := Cls.form hce)) | (refine CF 122 ?_; (fail_if_success (have := hcq)); (with_reducible apply aW); exact rfl; intro μsq hlesq hshq; (with_reducible apply aG); (iterate 3 exact rfl); ((with_reducible apply aQ); kernel_rfl; exact rfl); (exact fun w hw => bE [6] _ _ _ w _ hw (aN hshq rfl (by simp) (by repeat first | exact aJ | refine aF rfl ?_)) (by omega)); rintro vq μq hleq hcq; (obtain ⟨fq, capq, rfl⟩ := Cls.form hcq)) | (refine CF 122 ?_; (fail_if_success (have := hcr)); (with_reducible apply aW); exact rfl; intro μsr hlesr hshr; (with_reducible apply aG); (iterate 3 exact rfl); ((with_reducible apply aQ); kernel_rfl; exact rfl); (exact fun w hw => bE [20, 7] _ _ _ w _ hw (aN hshr rfl (by simp) (by repeat first | exact aJ | refine aF rfl ?_)) (by omega)); rintro vr μr hler hcr; (obtain ⟨fr, capr, rfl⟩ := Cls.form hcr)) | (refine CF 122 ?_; (fail_if_success (have := hcz)); (with_reducible apply aW); exact rfl; intro μsz hlesz hshz; (with_reducible apply aG); (iterate 3 exact rfl); ((with_reducible apply aQ); kernel_rfl; exact rfl); (exact fun w hw => bE [6, 7] _ _ _ w _ hw (aN hshz rfl (by simp) (by repeat first | exact aJ | refine aF rfl ?_)) (by omega)); rintro vz μz hlez hcz; (obtain ⟨fz, capz, rfl⟩ := Cls.form hcz)) | ((with_reducible apply F3 125); exact rfl; exact EN; (exact fun w μc hw hse => by have hle9 := hse.le; exact cF [.func (.func fq) #[] capq.toArray, .func (.func fr) #[] capr.toArray, .func (.func fz) #[] capz.toArray] _ _ _ w μc hw (aN hse.hd rfl (by simp) (by repeat first | exact aJ | refine aF rfl ?_)) (aL.gK (μ := μc) (ps := [ofT [6], ofT [20, 7], ofT [6, 7]]) (aL.cons (Cls.mono hcq (by (repeat first | assumption | refine MLe.trans ?_ ‹MLe _ _›))) (aL.cons (Cls.mono hcr (by (repeat first | assumption | refine MLe.trans ?_ ‹MLe _ _›))) (aL.cons (Cls.mono hcz (by (repeat assumption))) (aL.nil _))))) (by omega)); intro v9; (with_reducible apply cP 0); exact rfl; rintro A9 c9 rfl hok9) | ((with_reducible apply F1 124); exact rfl; exact EN; (exact fun w μc hw hse => by have hle9 := hse.le; exact cE [.func (.func fq) #[] capq.toArray, .func (.func fr) #[] capr.toArray, .func (.func fz) #[] capz.toArray] [ofT [6], ofT [20, 7], ofT [6, 7]] t.kids _ _ _ _ _ w μc hw (KR.mono (by (repeat first | assumption | refine MLe.trans ?_ ‹MLe _ _›)) hk) rfl (by omega) (bS (enc := iM) (xs := [.func (.func fq) #[] capq.toArray, .func (.func fr) #[] capr.toArray, .func (.func fz) #[] capz.toArray].map fun v => (v, (0 : Int))) hse.hd rfl (by simp) rfl) rfl (by decide) (aL.cons (Cls.mono hcq (by (repeat first | assumption | refine MLe.trans ?_ ‹MLe _ _›))) (aL.cons (Cls.mono hcr (by (repeat first | assumption | refine MLe.trans ?_ ‹MLe _ _›))) (aL.cons (Cls.mono hcz (by (repeat assumption))) (aL.nil _)))) hks)) | refine KI ?_ | refine NB fun b => ?_ | ((refine KB ?_ ?_ <;> intro hp)) | refine KG ?_ | fail)
    all_goals first | exact aB rfl rfl rfl | (exfalso; rw [hB] at hp; cases hp; done)
  · obtain ⟨x, y, z, hl⟩ := aEv hB
    obtain ⟨ad, u1, rfl, hm1, ho1, hk1⟩ := hkid 1 y (by rw [hl]; rfl)
    obtain ⟨ad2, u2, e, hm2, ho2, hk2⟩ := hkid 2 z (by rw [hl]; rfl)
    cases e
    have hg : EL t.kids = (decide (y.op ≠ 7) || decide (z.op ≠ 7)) := by unfold EL; rw [hB, hl, Bool.true_and]
    have hl3 : t.kids.length = 3 := by rw [hl]; rfl
    rw [hg]
    repeat' (first | refine KO ?_ | (refine CF 122 ?_; (fail_if_success (have := hce)); (with_reducible apply aW); exact rfl; intro μse hlese hshe; (with_reducible apply aG); (iterate 3 exact rfl); ((with_reducible apply aQ); kernel_rfl; exact rfl); (exact fun w hw => bE [7] _ _ _ w _ hw (aN hshe rfl (by simp) (by repeat first | exact aJ | refine aF rfl ?_)) (by omega)); rintro ve μe hlee hce; (obtain ⟨fe, cape, rfl⟩ := Cls.form hce)) | (refine CF 122 ?_; (fail_if_success (have := hcq)); (with_reducible apply aW); exact rfl; intro μsq hlesq hshq; (with_reducible apply aG); (iterate 3 exact rfl); ((with_reducible apply aQ); kernel_rfl; exact rfl); (exact fun w hw => bE [6] _ _ _ w _ hw (aN hshq rfl (by simp) (by repeat first | exact aJ | refine aF rfl ?_)) (by omega)); rintro vq μq hleq hcq; (obtain ⟨fq, capq, rfl⟩ := Cls.form hcq)) | (refine CF 122 ?_; (fail_if_success (have := hcr)); (with_reducible apply aW); exact rfl; intro μsr hlesr hshr; (with_reducible apply aG); (iterate 3 exact rfl); ((with_reducible apply aQ); kernel_rfl; exact rfl); (exact fun w hw => bE [20, 7] _ _ _ w _ hw (aN hshr rfl (by simp) (by repeat first | exact aJ | refine aF rfl ?_)) (by omega)); rintro vr μr hler hcr; (obtain ⟨fr, capr, rfl⟩ := Cls.form hcr)) | (refine CF 122 ?_; (fail_if_success (have := hcz)); (with_reducible apply aW); exact rfl; intro μsz hlesz hshz; (with_reducible apply aG); (iterate 3 exact rfl); ((with_reducible apply aQ); kernel_rfl; exact rfl); (exact fun w hw => bE [6, 7] _ _ _ w _ hw (aN hshz rfl (by simp) (by repeat first | exact aJ | refine aF rfl ?_)) (by omega)); rintro vz μz hlez hcz; (obtain ⟨fz, capz, rfl⟩ := Cls.form hcz)) | ((with_reducible apply F3 125); exact rfl; exact EN; (exact fun w μc hw hse => by have hle9 := hse.le; exact cF [.func (.func fq) #[] capq.toArray, .func (.func fr) #[] capr.toArray, .func (.func fz) #[] capz.toArray] _ _ _ w μc hw (aN hse.hd rfl (by simp) (by repeat first | exact aJ | refine aF rfl ?_)) (aL.gK (μ := μc) (ps := [ofT [6], ofT [20, 7], ofT [6, 7]]) (aL.cons (Cls.mono hcq (by (repeat first | assumption | refine MLe.trans ?_ ‹MLe _ _›))) (aL.cons (Cls.mono hcr (by (repeat first | assumption | refine MLe.trans ?_ ‹MLe _ _›))) (aL.cons (Cls.mono hcz (by (repeat assumption))) (aL.nil _))))) (by omega)); intro v9; (with_reducible apply cP 0); exact rfl; rintro A9 c9 rfl hok9) | ((with_reducible apply F1 124); exact rfl; exact EN; (exact fun w μc hw hse => by have hle9 := hse.le; exact cE [.func (.func fq) #[] capq.toArray, .func (.func fr) #[] capr.toArray, .func (.func fz) #[] capz.toArray] [ofT [6], ofT [20, 7], ofT [6, 7]] t.kids _ _ _ _ _ w μc hw (KR.mono (by (repeat first | assumption | refine MLe.trans ?_ ‹MLe _ _›)) hk) rfl (by omega) (bS (enc := iM) (xs := [.func (.func fq) #[] capq.toArray, .func (.func fr) #[] capr.toArray, .func (.func fz) #[] capz.toArray].map fun v => (v, (0 : Int))) hse.hd rfl (by simp) rfl) rfl (by decide) (aL.cons (Cls.mono hcq (by (repeat first | assumption | refine MLe.trans ?_ ‹MLe _ _›))) (aL.cons (Cls.mono hcr (by (repeat first | assumption | refine MLe.trans ?_ ‹MLe _ _›))) (aL.cons (Cls.mono hcz (by (repeat assumption))) (aL.nil _)))) hks)) | (refine KV (b := by first | exact U1 1 | exact U1 2 | ((with_reducible apply CD); (iterate 3 exact rfl); exact (hm1.mono (by (repeat first | exact MLe.refl _ | assumption | refine MLe.trans ?_ ‹MLe _ _›))); exact rfl) | ((with_reducible apply CD); (iterate 3 exact rfl); exact (hm2.mono (by (repeat first | assumption | refine MLe.trans ?_ ‹MLe _ _›))); exact rfl)) (c := ?_)) | refine KI ?_ | refine NB fun b => ?_ | ((refine KB ?_ ?_ <;> intro hp)) | refine KG ?_ | fail)
    all_goals (refine aB rfl rfl ?_; simp_all; done)
end Go.Proofs.YtocidaibmadekaaGreatDoor
namespace Go.Proofs.YtocidaibmadekaaGreatDoor
open Go.RowKit Go.Vcg
attribute [local irreducible] bC dQ kY fB fP mC G GC GQ GA bX Calls IntKind.wrap Int.decLt Int.decLe
theorem ZT (t : T) (u : Value) (w : World) (μ : Mem) (hμ : MOk μ w) (hk : KR μ t.kids u) (hs : t.size ≤ 100000) (hks : ∀ k ∈ t.kids, T.size k ≤ 100000 ∧ k.s.size ≤ 65536) (hop : t.op = 30 ∨ t.op = 31 ∨ t.op = 32 ∨ t.op = 33 ∨ t.op = 34 ∨ t.op = 35 ∨ t.op = 40) :
    Calls Tryz.prog 79 #[.agg (aD t u).toArray] w fun e w' => e = .returned (.bool (decide (t.kids.length = 0))) ∧ Below w.heap.size w w' := by
  have ho := hk.one
  obtain ⟨A, c, rfl, hlc, -⟩ := hk.form
  have hlen := bK t
  refine aA (args := [.agg (aD t (.slice A t.kids.length c)).toArray]) Tryz.func79 rfl Tryz.ntmps79 (by simp) hμ ?_
  repeat' (first | refine KK ?_ | refine NB fun b => ?_ | ((refine KB ?_ ?_ <;> intro hp)) | fail)
  all_goals (refine aB rfl rfl ?_; simp)
theorem ZQ (t : T) (u : Value) (w : World) (μ : Mem) (hμ : MOk μ w) (hk : KR μ t.kids u) (hs : t.size ≤ 100000) (hks : ∀ k ∈ t.kids, T.size k ≤ 100000 ∧ k.s.size ≤ 65536) (hop : t.op = 36) :
    Calls Tryz.prog 79 #[.agg (aD t u).toArray] w fun e w' => e = .returned (.bool (fP aK t.kids)) ∧ Below w.heap.size w w' := by
  have ho := hk.one
  obtain ⟨A, c, rfl, hlc, -⟩ := hk.form
  have hlen := bK t
  refine aA (args := [.agg (aD t (.slice A t.kids.length c)).toArray]) Tryz.func79 rfl Tryz.ntmps79 (by simp) hμ ?_
  repeat' (first | refine KO ?_ | ((with_reducible apply F1 118); exact rfl; exact EN; (exact fun w μc hw hse => by have hle9 := hse.le; exact zO t.kids _ _ _ w μc hw (KR.mono (by (repeat assumption)) hk) rfl (by omega) hks)) | refine KI ?_ | refine NB fun b => ?_ | fail)
  all_goals exact aB rfl rfl rfl
theorem VL (t : T) (u : Value) (w : World) (μ : Mem) (hμ : MOk μ w) (hk : KR μ t.kids u) (hs : t.size ≤ 100000) (hks : ∀ k ∈ t.kids, T.size k ≤ 100000 ∧ k.s.size ≤ 65536) (hop : t.op = 37) :
    Calls Tryz.prog 79 #[.agg (aD t u).toArray] w fun e w' => e = .returned (.bool (dQ (eiT [aK, ofT [40, 41]]) 0 (-1) t.kids)) ∧ Below w.heap.size w w' := by
  have ho := hk.one
  obtain ⟨A, c, rfl, hlc, -⟩ := hk.form
  have hlen := bK t
  refine aA (args := [.agg (aD t (.slice A t.kids.length c)).toArray]) Tryz.func79 rfl Tryz.ntmps79 (by simp) hμ ?_
  repeat' (first | refine KO ?_ | (refine CF 122 ?_; (fail_if_success (have := hcq)); (with_reducible apply aW); exact rfl; intro μsq hlesq hshq; (with_reducible apply aG); (iterate 3 exact rfl); ((with_reducible apply aQ); kernel_rfl; exact rfl); (exact fun w hw => bE [40, 41] _ _ _ w _ hw (aN hshq rfl (by simp) (by repeat first | exact aJ | refine aF rfl ?_)) (by omega)); rintro vq μq hleq hcq; (obtain ⟨fq, capq, rfl⟩ := Cls.form hcq)) | (refine CF 120 ?_; (fail_if_success (have := hcx)); (with_reducible apply aW); exact rfl; intro μsx hlesx hshx; (with_reducible apply aG); (iterate 3 exact rfl); ((with_reducible apply aQ); kernel_rfl; exact rfl); (exact fun w hw => dM [.func (.func 121) #[] #[], .func (.func fq) #[] capq.toArray] [aK, ofT [40, 41]] _ _ _ w _ hw (aN hshx rfl (by simp) (by repeat first | exact aJ | refine aF rfl ?_)) (aL.cons (aM _) (aL.cons (Cls.mono hcq (by (repeat assumption))) (aL.nil _))) (by omega)); rintro vx μx hlex hcx; (obtain ⟨fx, capx, rfl⟩ := Cls.form hcx)) | ((with_reducible apply F1 119); exact rfl; exact EN; (exact fun w μc hw hse => by have hle9 := hse.le; exact fL (eiT [aK, ofT [40, 41]]) _ _ _ t.kids _ _ _ w μc hw (Cls.mono hcx (by (repeat assumption))) (KR.mono (by (repeat first | assumption | refine MLe.trans ?_ ‹MLe _ _›)) hk) rfl (by omega) hks)) | refine KI ?_ | refine NB fun b => ?_ | fail)
  all_goals exact aB rfl rfl rfl
theorem QS (t : T) (u : Value) (w : World) (μ : Mem) (hμ : MOk μ w) (hk : KR μ t.kids u) (hs : t.size ≤ 100000) (hks : ∀ k ∈ t.kids, T.size k ≤ 100000 ∧ k.s.size ≤ 65536) (hop : t.op = 38) :
    Calls Tryz.prog 79 #[.agg (aD t u).toArray] w fun e w' => e = .returned (.bool (dQ (ofT [39]) 0 (-1) t.kids)) ∧ Below w.heap.size w w' := by
  have ho := hk.one
  obtain ⟨A, c, rfl, hlc, -⟩ := hk.form
  have hlen := bK t
  refine aA (args := [.agg (aD t (.slice A t.kids.length c)).toArray]) Tryz.func79 rfl Tryz.ntmps79 (by simp) hμ ?_
  repeat' (first | refine KO ?_ | (refine CF 122 ?_; (fail_if_success (have := hcq)); (with_reducible apply aW); exact rfl; intro μsq hlesq hshq; (with_reducible apply aG); (iterate 3 exact rfl); ((with_reducible apply aQ); kernel_rfl; exact rfl); (exact fun w hw => bE [39] _ _ _ w _ hw (aN hshq rfl (by simp) (by repeat first | exact aJ | refine aF rfl ?_)) (by omega)); rintro vq μq hleq hcq; (obtain ⟨fq, capq, rfl⟩ := Cls.form hcq)) | ((with_reducible apply F1 119); exact rfl; exact EN; (exact fun w μc hw hse => by have hle9 := hse.le; exact fL (ofT [39]) _ _ _ t.kids _ _ _ w μc hw (Cls.mono hcq (by (repeat assumption))) (KR.mono (by (repeat first | assumption | refine MLe.trans ?_ ‹MLe _ _›)) hk) rfl (by omega) hks)) | refine KI ?_ | refine NB fun b => ?_ | fail)
  all_goals exact aB rfl rfl rfl
theorem ZS (t : T) (u : Value) (w : World) (μ : Mem) (hμ : MOk μ w) (hk : KR μ t.kids u) (hs : t.size ≤ 100000) (hks : ∀ k ∈ t.kids, T.size k ≤ 100000 ∧ k.s.size ≤ 65536) (hop : t.op = 39) :
    Calls Tryz.prog 79 #[.agg (aD t u).toArray] w fun e w' => e = .returned (.bool (kY t)) ∧ Below w.heap.size w w' := by
  have ho := hk.one
  obtain ⟨A, c, rfl, hlc, -⟩ := hk.form
  have hlen := bK t
  refine aA (args := [.agg (aD t (.slice A t.kids.length c)).toArray]) Tryz.func79 rfl Tryz.ntmps79 (by simp) hμ ?_
  repeat' (first | refine KO ?_ | ((with_reducible apply F1 123); exact rfl; exact EN; (exact fun w μc hw hse => by have hle9 := hse.le; exact OO t _ w μc hw (KR.mono (by (repeat assumption)) hk) hs hks)) | refine KI ?_ | refine NB fun b => ?_ | fail)
  all_goals exact aB rfl rfl rfl
theorem QR (t : T) (u : Value) (w : World) (μ : Mem) (hμ : MOk μ w) (hk : KR μ t.kids u) (hs : t.size ≤ 100000) (hks : ∀ k ∈ t.kids, T.size k ≤ 100000 ∧ k.s.size ≤ 65536) (hop : t.op = 41 ∨ t.op = 42) :
    Calls Tryz.prog 79 #[.agg (aD t u).toArray] w fun e w' => e = .returned (.bool (bC (bM [aK]) t.kids)) ∧ Below w.heap.size w w' := by
  have ho := hk.one
  obtain ⟨A, c, rfl, hlc, -⟩ := hk.form
  have hlen := bK t
  refine aA (args := [.agg (aD t (.slice A t.kids.length c)).toArray]) Tryz.func79 rfl Tryz.ntmps79 (by simp) hμ ?_
  repeat' (first | refine KO ?_ | ((with_reducible apply F3 125); exact rfl; exact EN; (exact fun w μc hw hse => by have hle9 := hse.le; exact cF [.func (.func 121) #[] #[]] _ _ _ w μc hw (aN hse.hd rfl (by simp) (by repeat first | exact aJ | refine aF rfl ?_)) (aL.gK (μ := μc) (ps := [aK]) (aL.cons (aM _) (aL.nil _))) (by omega)); intro v9; (with_reducible apply cP 0); exact rfl; rintro A9 c9 rfl hok9) | ((with_reducible apply F1 124); exact rfl; exact EN; (exact fun w μc hw hse => by have hle9 := hse.le; exact cE [.func (.func 121) #[] #[]] [aK] t.kids _ _ _ _ _ w μc hw (KR.mono (by (repeat assumption)) hk) rfl (by omega) (bS (enc := iM) (xs := [.func (.func 121) #[] #[]].map fun v => (v, (0 : Int))) hse.hd rfl (by simp) rfl) rfl (by decide) (aL.cons (aM _) (aL.nil _)) hks)) | refine KI ?_ | refine NB fun b => ?_ | ((refine KB ?_ ?_ <;> intro hp)) | fail)
  all_goals exact aB rfl rfl rfl
theorem QQ (t : T) (u : Value) (w : World) (μ : Mem) (hμ : MOk μ w) (hk : KR μ t.kids u) (hs : t.size ≤ 100000) (hks : ∀ k ∈ t.kids, T.size k ≤ 100000 ∧ k.s.size ≤ 65536) (hop : t.op = 43) :
    Calls Tryz.prog 79 #[.agg (aD t u).toArray] w fun e w' => e = .returned (.bool (bC (bM [dS]) t.kids)) ∧ Below w.heap.size w w' := by
  have ho := hk.one
  obtain ⟨A, c, rfl, hlc, -⟩ := hk.form
  have hlen := bK t
  refine aA (args := [.agg (aD t (.slice A t.kids.length c)).toArray]) Tryz.func79 rfl Tryz.ntmps79 (by simp) hμ ?_
  repeat' (first | refine KO ?_ | ((with_reducible apply F3 125); exact rfl; exact EN; (exact fun w μc hw hse => by have hle9 := hse.le; exact cF [.func (.func 126) #[] #[]] _ _ _ w μc hw (aN hse.hd rfl (by simp) (by repeat first | exact aJ | refine aF rfl ?_)) (aL.gK (μ := μc) (ps := [dS]) (aL.cons (oJ _) (aL.nil _))) (by omega)); intro v9; (with_reducible apply cP 0); exact rfl; rintro A9 c9 rfl hok9) | ((with_reducible apply F1 124); exact rfl; exact EN; (exact fun w μc hw hse => by have hle9 := hse.le; exact cE [.func (.func 126) #[] #[]] [dS] t.kids _ _ _ _ _ w μc hw (KR.mono (by (repeat assumption)) hk) rfl (by omega) (bS (enc := iM) (xs := [.func (.func 126) #[] #[]].map fun v => (v, (0 : Int))) hse.hd rfl (by simp) rfl) rfl (by decide) (aL.cons (oJ _) (aL.nil _)) hks)) | refine KI ?_ | refine NB fun b => ?_ | fail)
  all_goals exact aB rfl rfl rfl
theorem aCy (t : T) (u : Value) (w : World) (μ : Mem) (hμ : MOk μ w) (hk : KR μ t.kids u) (hs : t.size ≤ 100000) (hks : ∀ k ∈ t.kids, T.size k ≤ 100000 ∧ k.s.size ≤ 65536) (hop : t.op = 44 ∨ t.op = 45 ∨ t.op = 52) :
    Calls Tryz.prog 79 #[.agg (aD t u).toArray] w fun e w' => e = .returned (.bool (dQ aK 2 2 t.kids)) ∧ Below w.heap.size w w' := by
  have ho := hk.one
  obtain ⟨A, c, rfl, hlc, -⟩ := hk.form
  have hlen := bK t
  refine aA (args := [.agg (aD t (.slice A t.kids.length c)).toArray]) Tryz.func79 rfl Tryz.ntmps79 (by simp) hμ ?_
  repeat' (first | refine KO ?_ | ((with_reducible apply F1 119); exact rfl; exact EN; (exact fun w μc hw hse => by have hle9 := hse.le; exact fL (aK) _ _ _ t.kids _ _ _ w μc hw (aM _) (KR.mono (by (repeat assumption)) hk) rfl (by omega) hks)) | refine KI ?_ | refine NB fun b => ?_ | ((refine KB ?_ ?_ <;> intro hp)) | fail)
  all_goals exact aB rfl rfl rfl
theorem KM (t : T) (u : Value) (w : World) (μ : Mem) (hμ : MOk μ w) (hk : KR μ t.kids u) (hs : t.size ≤ 100000) (hks : ∀ k ∈ t.kids, T.size k ≤ 100000 ∧ k.s.size ≤ 65536) (hop : t.op = 46) (hss : t.s = ⟨#[61]⟩) :
    Calls Tryz.prog 79 #[.agg (aD t u).toArray] w fun e w' => e = .returned (.bool (bC (bM [aV, aK]) t.kids)) ∧ Below w.heap.size w w' := by
  have ho := hk.one
  obtain ⟨A, c, rfl, hlc, -⟩ := hk.form
  have hlen := bK t
  refine aA (args := [.agg (aD t (.slice A t.kids.length c)).toArray]) Tryz.func79 rfl Tryz.ntmps79 (by simp) hμ ?_
  repeat' (first | refine KO ?_ | ((with_reducible apply F3 125); exact rfl; exact EN; (exact fun w μc hw hse => by have hle9 := hse.le; exact cF [.func (.func 127) #[] #[], .func (.func 121) #[] #[]] _ _ _ w μc hw (aN hse.hd rfl (by simp) (by repeat first | exact aJ | refine aF rfl ?_)) (aL.gK (μ := μc) (ps := [aV, aK]) (aL.cons (dK _) (aL.cons (aM _) (aL.nil _)))) (by omega)); intro v9; (with_reducible apply cP 0); exact rfl; rintro A9 c9 rfl hok9) | ((with_reducible apply F1 124); exact rfl; exact EN; (exact fun w μc hw hse => by have hle9 := hse.le; exact cE [.func (.func 127) #[] #[], .func (.func 121) #[] #[]] [aV, aK] t.kids _ _ _ _ _ w μc hw (KR.mono (by (repeat assumption)) hk) rfl (by omega) (bS (enc := iM) (xs := [.func (.func 127) #[] #[], .func (.func 121) #[] #[]].map fun v => (v, (0 : Int))) hse.hd rfl (by simp) rfl) rfl (by decide) (aL.cons (dK _) (aL.cons (aM _) (aL.nil _))) hks)) | refine KI ?_ | refine NB fun b => ?_ | fail)
  all_goals exact aB rfl rfl rfl
theorem KN (t : T) (u : Value) (w : World) (μ : Mem) (hμ : MOk μ w) (hk : KR μ t.kids u) (hs : t.size ≤ 100000) (hks : ∀ k ∈ t.kids, T.size k ≤ 100000 ∧ k.s.size ≤ 65536) (hop : t.op = 46) (hss : t.s ≠ ⟨#[61]⟩) :
    Calls Tryz.prog 79 #[.agg (aD t u).toArray] w fun e w' => e = .returned (.bool (bC (bM [dS, aK]) t.kids)) ∧ Below w.heap.size w w' := by
  have ho := hk.one
  obtain ⟨A, c, rfl, hlc, -⟩ := hk.form
  have hlen := bK t
  refine aA (args := [.agg (aD t (.slice A t.kids.length c)).toArray]) Tryz.func79 rfl Tryz.ntmps79 (by simp) hμ ?_
  repeat' (first | refine KO ?_ | ((with_reducible apply F3 125); exact rfl; exact EN; (exact fun w μc hw hse => by have hle9 := hse.le; exact cF [.func (.func 126) #[] #[], .func (.func 121) #[] #[]] _ _ _ w μc hw (aN hse.hd rfl (by simp) (by repeat first | exact aJ | refine aF rfl ?_)) (aL.gK (μ := μc) (ps := [dS, aK]) (aL.cons (oJ _) (aL.cons (aM _) (aL.nil _)))) (by omega)); intro v9; (with_reducible apply cP 0); exact rfl; rintro A9 c9 rfl hok9) | ((with_reducible apply F1 124); exact rfl; exact EN; (exact fun w μc hw hse => by have hle9 := hse.le; exact cE [.func (.func 126) #[] #[], .func (.func 121) #[] #[]] [dS, aK] t.kids _ _ _ _ _ w μc hw (KR.mono (by (repeat assumption)) hk) rfl (by omega) (bS (enc := iM) (xs := [.func (.func 126) #[] #[], .func (.func 121) #[] #[]].map fun v => (v, (0 : Int))) hse.hd rfl (by simp) rfl) rfl (by decide) (aL.cons (oJ _) (aL.cons (aM _) (aL.nil _))) hks)) | refine KI ?_ | refine NB fun b => ?_ | fail)
  all_goals exact aB rfl rfl rfl
theorem ZU (t : T) (u : Value) (w : World) (μ : Mem) (hμ : MOk μ w) (hk : KR μ t.kids u) (hs : t.size ≤ 100000) (hks : ∀ k ∈ t.kids, T.size k ≤ 100000 ∧ k.s.size ≤ 65536) (hop : t.op = 47) :
    Calls Tryz.prog 79 #[.agg (aD t u).toArray] w fun e w' => e = .returned (.bool (dQ aK 3 3 t.kids)) ∧ Below w.heap.size w w' := by
  have ho := hk.one
  obtain ⟨A, c, rfl, hlc, -⟩ := hk.form
  have hlen := bK t
  refine aA (args := [.agg (aD t (.slice A t.kids.length c)).toArray]) Tryz.func79 rfl Tryz.ntmps79 (by simp) hμ ?_
  repeat' (first | refine KO ?_ | ((with_reducible apply F1 119); exact rfl; exact EN; (exact fun w μc hw hse => by have hle9 := hse.le; exact fL (aK) _ _ _ t.kids _ _ _ w μc hw (aM _) (KR.mono (by (repeat assumption)) hk) rfl (by omega) hks)) | refine KI ?_ | refine NB fun b => ?_ | fail)
  all_goals exact aB rfl rfl rfl
theorem aCw (t : T) (u : Value) (w : World) (μ : Mem) (hμ : MOk μ w) (hk : KR μ t.kids u) (hs : t.size ≤ 100000) (hks : ∀ k ∈ t.kids, T.size k ≤ 100000 ∧ k.s.size ≤ 65536) (hop : t.op = 48) :
    Calls Tryz.prog 79 #[.agg (aD t u).toArray] w fun e w' => e = .returned (.bool (dQ aK 2 (-1) t.kids)) ∧ Below w.heap.size w w' := by
  have ho := hk.one
  obtain ⟨A, c, rfl, hlc, -⟩ := hk.form
  have hlen := bK t
  refine aA (args := [.agg (aD t (.slice A t.kids.length c)).toArray]) Tryz.func79 rfl Tryz.ntmps79 (by simp) hμ ?_
  repeat' (first | refine KO ?_ | ((with_reducible apply F1 119); exact rfl; exact EN; (exact fun w μc hw hse => by have hle9 := hse.le; exact fL (aK) _ _ _ t.kids _ _ _ w μc hw (aM _) (KR.mono (by (repeat assumption)) hk) rfl (by omega) hks)) | refine KI ?_ | refine NB fun b => ?_ | fail)
  all_goals exact aB rfl rfl rfl
theorem ZV (t : T) (u : Value) (w : World) (μ : Mem) (hμ : MOk μ w) (hk : KR μ t.kids u) (hs : t.size ≤ 100000) (hks : ∀ k ∈ t.kids, T.size k ≤ 100000 ∧ k.s.size ≤ 65536) (hop : t.op = 49 ∨ t.op = 50) :
    Calls Tryz.prog 79 #[.agg (aD t u).toArray] w fun e w' => e = .returned (.bool (bC [(aK, 0), (zJ, 2)] t.kids)) ∧ Below w.heap.size w w' := by
  have ho := hk.one
  obtain ⟨A, c, rfl, hlc, -⟩ := hk.form
  have hlen := bK t
  refine aA (args := [.agg (aD t (.slice A t.kids.length c)).toArray]) Tryz.func79 rfl Tryz.ntmps79 (by simp) hμ ?_
  repeat' (first | refine KO ?_ | (refine CF 128 ?_; (fail_if_success (have := hck)); (with_reducible apply aG); (iterate 3 exact rfl); ((with_reducible apply NO); kernel_rfl); (exact fun w hw => QZ w _ hw); rintro vk μk hlek hck; (obtain ⟨fk, capk, rfl⟩ := Cls.form hck)) | ((with_reducible apply F1 124); exact rfl; exact EN; (exact fun w μc hw hse => by have hle9 := hse.le; exact gT [(.func (.func 121) #[] #[], 0), (.func (.func fk) #[] capk.toArray, 2)] [(aK, 0), (zJ, 2)] t.kids _ _ _ _ _ w μc hw (KR.mono (by (repeat first | assumption | refine MLe.trans ?_ ‹MLe _ _›)) hk) rfl (by omega) (aN hse.hd rfl (by simp) (by repeat first | exact aJ | refine aF rfl ?_)) rfl (by decide) (Rws.cons (aM _) (Rws.cons (Cls.mono hck (by (repeat assumption))) (Rws.nil _))) hks)) | refine KI ?_ | refine NB fun b => ?_ | ((refine KB ?_ ?_ <;> intro hp)) | fail)
  all_goals exact aB rfl rfl rfl
theorem aCx (t : T) (u : Value) (w : World) (μ : Mem) (hμ : MOk μ w) (hk : KR μ t.kids u) (hs : t.size ≤ 100000) (hks : ∀ k ∈ t.kids, T.size k ≤ 100000 ∧ k.s.size ≤ 65536) (hop : t.op = 51) :
    Calls Tryz.prog 79 #[.agg (aD t u).toArray] w fun e w' => e = .returned (.bool (dQ aK 1 1 t.kids)) ∧ Below w.heap.size w w' := by
  have ho := hk.one
  obtain ⟨A, c, rfl, hlc, -⟩ := hk.form
  have hlen := bK t
  refine aA (args := [.agg (aD t (.slice A t.kids.length c)).toArray]) Tryz.func79 rfl Tryz.ntmps79 (by simp) hμ ?_
  repeat' (first | refine KO ?_ | ((with_reducible apply F1 119); exact rfl; exact EN; (exact fun w μc hw hse => by have hle9 := hse.le; exact fL (aK) _ _ _ t.kids _ _ _ w μc hw (aM _) (KR.mono (by (repeat assumption)) hk) rfl (by omega) hks)) | refine KI ?_ | refine NB fun b => ?_ | fail)
  all_goals exact aB rfl rfl rfl
theorem VK (t : T) (u : Value) (w : World) (μ : Mem) (hμ : MOk μ w) (hk : KR μ t.kids u) (hs : t.size ≤ 100000) (hks : ∀ k ∈ t.kids, T.size k ≤ 100000 ∧ k.s.size ≤ 65536) (hop : t.op = 53) (hsh : ∀ k ∈ t.kids, Sh' k) :
    Calls Tryz.prog 79 #[.agg (aD t u).toArray] w fun e w' => e = .returned (.bool (mC t.kids)) ∧ Below w.heap.size w w' := by
  have ho := hk.one
  obtain ⟨A, c, rfl, hlc, -⟩ := hk.form
  have hlen := bK t
  refine aA (args := [.agg (aD t (.slice A t.kids.length c)).toArray]) Tryz.func79 rfl Tryz.ntmps79 (by simp) hμ ?_
  repeat' (first | refine KO ?_ | ((with_reducible apply F1 129); exact rfl; exact EN; (exact fun w μc hw hse => by have hle9 := hse.le; exact LJ t.kids _ _ _ w μc hw (KR.mono (by (repeat assumption)) hk) rfl (by omega) (fun k hk => ⟨(hks k hk).1, hsh k hk⟩))) | refine KI ?_ | refine NB fun b => ?_ | fail)
  all_goals exact aB rfl rfl rfl
theorem VI (t : T) (u : Value) (w : World) (μ : Mem) (hμ : MOk μ w) (hk : KR μ t.kids u) (hs : t.size ≤ 100000) (hks : ∀ k ∈ t.kids, T.size k ≤ 100000 ∧ k.s.size ≤ 65536) (hop : t.op = 54) :
    Calls Tryz.prog 79 #[.agg (aD t u).toArray] w fun e w' => e = .returned (.bool (dQ aK t.n 1 t.kids)) ∧ Below w.heap.size w w' := by
  have ho := hk.one
  obtain ⟨A, c, rfl, hlc, -⟩ := hk.form
  have hlen := bK t
  refine aA (args := [.agg (aD t (.slice A t.kids.length c)).toArray]) Tryz.func79 rfl Tryz.ntmps79 (by simp) hμ ?_
  repeat' (first | refine KO ?_ | ((with_reducible apply F1 119); exact rfl; exact EN; (exact fun w μc hw hse => by have hle9 := hse.le; exact fL (aK) _ _ _ t.kids _ _ _ w μc hw (aM _) (KR.mono (by (repeat assumption)) hk) rfl (by omega) hks)) | refine KI ?_ | refine NB fun b => ?_ | fail)
  all_goals exact aB rfl rfl rfl
theorem ZR (t : T) (u : Value) (w : World) (μ : Mem) (hμ : MOk μ w) (hk : KR μ t.kids u) (hs : t.size ≤ 100000) (hks : ∀ k ∈ t.kids, T.size k ≤ 100000 ∧ k.s.size ≤ 65536) (hop : t.op ≠ 30 ∧ t.op ≠ 31 ∧ t.op ≠ 32 ∧ t.op ≠ 33 ∧ t.op ≠ 34 ∧ t.op ≠ 35 ∧ t.op ≠ 36 ∧ t.op ≠ 37 ∧ t.op ≠ 38 ∧ t.op ≠ 39 ∧ t.op ≠ 40 ∧ t.op ≠ 41 ∧ t.op ≠ 42 ∧ t.op ≠ 43 ∧ t.op ≠ 44 ∧ t.op ≠ 45 ∧ t.op ≠ 46 ∧ t.op ≠ 47 ∧ t.op ≠ 48 ∧ t.op ≠ 49 ∧ t.op ≠ 50 ∧ t.op ≠ 51 ∧ t.op ≠ 52 ∧ t.op ≠ 53 ∧ t.op ≠ 54) :
    Calls Tryz.prog 79 #[.agg (aD t u).toArray] w fun e w' => e = .returned (.bool (fB t)) ∧ Below w.heap.size w w' := by
  have ho := hk.one
  obtain ⟨A, c, rfl, hlc, -⟩ := hk.form
  have hlen := bK t
  refine aA (args := [.agg (aD t (.slice A t.kids.length c)).toArray]) Tryz.func79 rfl Tryz.ntmps79 (by simp) hμ ?_
  repeat' (first | refine KO ?_ | ((with_reducible apply F1 130); exact rfl; exact EN; (exact fun w μc hw hse => by have hle9 := hse.le; exact zQ t _ w μc hw (KR.mono (by (repeat assumption)) hk) hs hks)) | refine KI ?_ | refine NB fun b => ?_ | fail)
  all_goals exact aB rfl rfl rfl
end Go.Proofs.YtocidaibmadekaaGreatDoor
namespace Go.Proofs.YtocidaibmadekaaGreatDoor
open Go.RowKit Go.Vcg Go.Shelf
def mD (s : ByteArray) (ws : List (List UInt8)) : List Bool := ws.map fun l => decide (s = ⟨l.toArray⟩)
def hZ (s : ByteArray) (ws : List (List UInt8)) : Bool := (mD s ws).any id
def sP : List (List UInt8) := [[100, 101, 108, 101, 116, 101], [118, 111, 105, 100], [116, 121, 112, 101, 111, 102], [43], [45], [33], [126]]
def qH : List (List UInt8) := [[43, 43], [45, 45]]
def sO : List (List UInt8) := [[124], [94], [38], [61, 61], [33, 61], [61, 61, 61], [33, 61, 61], [60], [62], [60, 61], [62, 61], [105, 110, 115, 116, 97, 110, 99, 101, 111, 102], [105, 110], [60, 60], [62, 62], [43], [45], [42], [47], [37]]
def qG : List (List UInt8) := [[38, 38], [124, 124], [63, 63]]
def sN : List (List UInt8) := [[61], [43, 61], [45, 61], [42, 61], [47, 61], [37, 61], [38, 61], [124, 61], [94, 61], [60, 60, 61], [62, 62, 61], [38, 38, 61], [124, 124, 61], [63, 63, 61]]
def eB (op : Int) : Int :=
  if op = 1 ∨ op = 22 ∨ op = 32 ∨ op = 43 ∨ op = 49 ∨ op = 51 ∨ op = 52 ∨ op = 54 then 1 else if op = 2 then 2 else if op = 30 then 9007199254740992 else if op = 39 then 5 else 0
noncomputable def gC (t : T) : Bool :=
  if t.op = 15 ∨ t.op = 16 then decide (t.s = ⟨#[]⟩) || eK t.s
  else if t.op = 23 ∨ t.op = 34 ∨ t.op = 51 then eK t.s
  else if t.op = 31 then true
  else if t.op = 42 then hZ t.s sP
  else if t.op = 43 then hZ t.s qH
  else if t.op = 44 then hZ t.s sO
  else if t.op = 45 then hZ t.s qG
  else if t.op = 46 then hZ t.s sN
  else decide (t.s = ⟨#[]⟩)
attribute [local irreducible] eK hZ G GC GQ GA bX Calls IntKind.wrap Int.decLt Int.decLe
theorem GR (s : ByteArray) (ws : List (List UInt8)) (A : Option Addr) (n c : Nat) (w : World) (μ : Mem) (hμ : MOk μ w) (hS : Sl KU 1 μ A n ws) (hn : n ≤ 100000) :
    Calls Tryz.prog 140 #[.slice A n c, .string s] w fun e w' => e = .returned (.int .i64 (firstT (mD s ws))) ∧ Below w.heap.size w w' := by
  refine aA (args := [.slice A n c, .string s]) Tryz.func140 rfl Tryz.ntmps140 (by simp) hμ ?_
  have hqn : (mD s ws).length = n := by unfold mD; rw [List.length_map]; exact hS.1
  repeat' (first | refine KK ?_ | fail)
  refine aX (ι := Nat) (fun k => k ≤ n ∧ ∀ (j : Nat) (q : Bool), j < k → (mD s ws)[j]? = some q → q = false) (fun k => n - k) (fun _ => μ) (fun k => [(8, .int .i64 k), (7, .int .i64 n), (6, .slice A n c), (0, .slice A n c), (1, .string s)]) (fun _ => []) 0 ⟨by omega, fun j _ h => absurd h (by omega)⟩ (fun a w hs => J6 hs) ?_
  rintro k ⟨hk, hf⟩
  by_cases hlt : k < n
  · have hqk : (mD s ws)[k]? = some ((mD s ws)[k]'(by omega)) := List.getElem?_eq_getElem (by omega)
    generalize (mD s ws)[k]'(by omega) = q at hqk
    have hnext : q = false → ∀ (j : Nat) (q : Bool), j < k + 1 → (mD s ws)[j]? = some q → q = false := fun h j p hj hp => by
      rcases Nat.lt_or_ge j k with h1 | h1
      · exact hf j p h1 hp
      · obtain rfl : j = k := by omega
        rw [hqk] at hp
        cases hp
        exact h
    obtain ⟨ad, y, rfl, hy, hm⟩ := hS.get hlt
    have hqv : q = decide (s = ⟨y.toArray⟩) := by
      have h := hqk
      unfold mD at h
      rw [List.getElem?_map, hy] at h
      exact (Option.some.inj h).symm
    cases hq : q
    · have hb := hnext hq
      rw [hq] at hqv
      have hne : ¬ s = ⟨y.toArray⟩ := of_decide_eq_false hqv.symm
      repeat' (first | refine KO ?_ | (refine KV (b := by first | exact U1 k | exact U3 (hm.at 0 rfl)) (c := ?_)) | refine KI ?_ | fail)
      all_goals exact J4 (k + 1) ⟨by omega, hb⟩ (by omega)
    · rw [hq] at hqv hqk
      have he : s = ⟨y.toArray⟩ := of_decide_eq_true hqv.symm
      repeat' (first | refine KO ?_ | (refine KV (b := by first | exact U1 k | exact U3 (hm.at 0 rfl)) (c := ?_)) | fail)
      all_goals (refine aB rfl rfl ?_; rw [lQ hqk hf])
  · repeat' (first | refine KK ?_ | fail)
    refine aB rfl rfl ?_
    rw [iT fun j q hq => hf j q (by have := (List.getElem?_eq_some_iff.1 hq).1; omega) hq]
theorem qB (s : ByteArray) (ws : List (List UInt8)) (A : Option Addr) (n c : Nat) (w : World) (μ : Mem) (hμ : MOk μ w) (hS : Sl KU 1 μ A n ws) (hn : n ≤ 100000) :
    Calls Tryz.prog 90 #[.slice A n c, .string s] w fun e w' => e = .returned (.bool (hZ s ws)) ∧ Below w.heap.size w w' := by
  refine aA (args := [.slice A n c, .string s]) Tryz.func90 rfl Tryz.ntmps90 (by simp) hμ ?_
  rw [show hZ s ws = decide (0 ≤ firstT (mD s ws)) from by rw [jY]; unfold hZ; rfl]
  repeat' (first | refine KO ?_ | ((with_reducible apply C1); exact rfl; exact EN; exact fun w μc hw hse => GR s ws A n c w μc hw (hS.mono hse.le) hn) | fail)
  exact aB rfl rfl rfl
theorem pG (s l : ByteArray) (ws : List (List UInt8)) (hs : Nat.blt l.data.toList.length 4294967281 = true) (ha : l.data.toList.all (fun b => Nat.blt b.toNat 128) = true) (hf : Lib.fields l.data.toList = ws) (hwn : ws.length ≤ 100000) (w : World) (μ : Mem) (hμ : MOk μ w) (hT : kX μ) :
    Calls Tryz.prog 148 #[.string s, .string l] w fun e w' => e = .returned (.bool (hZ s ws)) ∧ Below w.heap.size w w' := by
  refine aA (args := [.string s, .string l]) Tryz.func148 rfl Tryz.ntmps148 (by simp) hμ ?_
  repeat' (first | refine KO ?_ | ((with_reducible apply F2 145); exact rfl; exact EN; (exact fun w hw => mQ l ws hs ha hf w _ hw hT); rintro v2 μ2 hle2 ⟨bf, rfl, hS⟩) | ((with_reducible apply C1); exact rfl; exact EN; exact fun w μc hw hse => qB s ws _ _ _ w μc hw (hS.mono hse.le) hwn) | fail)
  exact aB rfl rfl rfl
theorem OW (op : Int) (w : World) (μ : Mem) (hμ : MOk μ w) :
    Calls Tryz.prog 116 #[.int .i64 op] w fun e w' => e = .returned (.int .i64 (eB op)) ∧ Below w.heap.size w w' := by
  refine aA (args := [.int .i64 op]) Tryz.func116 rfl Tryz.ntmps116 (by simp) hμ ?_
  repeat' (first | refine KK ?_ | ((refine KB ?_ ?_ <;> intro hp)) | fail)
  all_goals (refine aB rfl rfl ?_; simp_all [eB])
noncomputable def kU (op : Int) : Bool := decide ((⟨(mM op).toArray⟩ : ByteArray) ≠ ⟨#[]⟩)
theorem JT (op : Int) (hop : -9223372036854775808 ≤ op ∧ op ≤ 9223372036854775807) (w : World) (μ : Mem) (hμ : MOk μ w) (hT : kX μ) :
    Calls Tryz.prog 76 #[.int .i64 op] w fun e w' => e = .returned (.bool (kU op)) ∧ Below w.heap.size w w' := by
  refine aA (args := [.int .i64 op]) Tryz.func76 rfl Tryz.ntmps76 (by simp) hμ ?_
  repeat' (first | refine KO ?_ | ((with_reducible apply C1); exact rfl; exact EN; exact fun w μc hw hse => OT op hop w μc hw (hT.mono hse.le)) | fail)
  exact aB rfl rfl rfl
theorem aDg (t : T) (u : Value) (w : World) (μ : Mem) (hμ : MOk μ w) (hk : KR μ t.kids u) (hT : kX μ) (hop : t.op = 42) :
    Calls Tryz.prog 117 #[.agg (aD t u).toArray] w fun e w' => e = .returned (.bool (hZ t.s sP)) ∧ Below w.heap.size w w' := by
  have ho := hk.one
  refine aA (args := [.agg (aD t u).toArray]) Tryz.func117 rfl Tryz.ntmps117 (by simp) hμ ?_
  repeat' (first | refine KO ?_ | ((with_reducible apply F1 148); exact rfl; exact EN; exact fun w μc hw hse => pG t.s _ sP (by kernel_rfl) (by kernel_rfl) (by kernel_rfl) (by decide) w μc hw (hT.mono hse.le)) | refine KI ?_ | refine NB fun b => ?_ | fail)
  all_goals exact aB rfl rfl rfl
theorem aDf (t : T) (u : Value) (w : World) (μ : Mem) (hμ : MOk μ w) (hk : KR μ t.kids u) (hT : kX μ) (hop : t.op = 43) :
    Calls Tryz.prog 117 #[.agg (aD t u).toArray] w fun e w' => e = .returned (.bool (hZ t.s qH)) ∧ Below w.heap.size w w' := by
  have ho := hk.one
  refine aA (args := [.agg (aD t u).toArray]) Tryz.func117 rfl Tryz.ntmps117 (by simp) hμ ?_
  repeat' (first | refine KO ?_ | ((with_reducible apply F1 148); exact rfl; exact EN; exact fun w μc hw hse => pG t.s _ qH (by kernel_rfl) (by kernel_rfl) (by kernel_rfl) (by decide) w μc hw (hT.mono hse.le)) | refine KI ?_ | refine NB fun b => ?_ | fail)
  all_goals exact aB rfl rfl rfl
theorem aDe (t : T) (u : Value) (w : World) (μ : Mem) (hμ : MOk μ w) (hk : KR μ t.kids u) (hT : kX μ) (hop : t.op = 44) :
    Calls Tryz.prog 117 #[.agg (aD t u).toArray] w fun e w' => e = .returned (.bool (hZ t.s sO)) ∧ Below w.heap.size w w' := by
  have ho := hk.one
  refine aA (args := [.agg (aD t u).toArray]) Tryz.func117 rfl Tryz.ntmps117 (by simp) hμ ?_
  repeat' (first | refine KO ?_ | ((with_reducible apply F1 148); exact rfl; exact EN; exact fun w μc hw hse => pG t.s _ sO (by kernel_rfl) (by kernel_rfl) (by kernel_rfl) (by decide) w μc hw (hT.mono hse.le)) | refine KI ?_ | refine NB fun b => ?_ | fail)
  all_goals exact aB rfl rfl rfl
theorem aDd (t : T) (u : Value) (w : World) (μ : Mem) (hμ : MOk μ w) (hk : KR μ t.kids u) (hT : kX μ) (hop : t.op = 45) :
    Calls Tryz.prog 117 #[.agg (aD t u).toArray] w fun e w' => e = .returned (.bool (hZ t.s qG)) ∧ Below w.heap.size w w' := by
  have ho := hk.one
  refine aA (args := [.agg (aD t u).toArray]) Tryz.func117 rfl Tryz.ntmps117 (by simp) hμ ?_
  repeat' (first | refine KO ?_ | ((with_reducible apply F1 148); exact rfl; exact EN; exact fun w μc hw hse => pG t.s _ qG (by kernel_rfl) (by kernel_rfl) (by kernel_rfl) (by decide) w μc hw (hT.mono hse.le)) | refine KI ?_ | refine NB fun b => ?_ | fail)
  all_goals exact aB rfl rfl rfl
theorem aDc (t : T) (u : Value) (w : World) (μ : Mem) (hμ : MOk μ w) (hk : KR μ t.kids u) (hT : kX μ) (hop : t.op = 46) :
    Calls Tryz.prog 117 #[.agg (aD t u).toArray] w fun e w' => e = .returned (.bool (hZ t.s sN)) ∧ Below w.heap.size w w' := by
  have ho := hk.one
  refine aA (args := [.agg (aD t u).toArray]) Tryz.func117 rfl Tryz.ntmps117 (by simp) hμ ?_
  repeat' (first | refine KO ?_ | ((with_reducible apply F1 148); exact rfl; exact EN; exact fun w μc hw hse => pG t.s _ sN (by kernel_rfl) (by kernel_rfl) (by kernel_rfl) (by decide) w μc hw (hT.mono hse.le)) | refine KI ?_ | refine NB fun b => ?_ | fail)
  all_goals exact aB rfl rfl rfl
theorem OA (t : T) (u : Value) (w : World) (μ : Mem) (hμ : MOk μ w) (hk : KR μ t.kids u) (hss : t.s.size ≤ 65536) (hT : kX μ) :
    Calls Tryz.prog 117 #[.agg (aD t u).toArray] w fun e w' => e = .returned (.bool (gC t)) ∧ Below w.heap.size w w' := by
  by_cases h42 : t.op = 42
  · simpa [gC, h42] using aDg t u w μ hμ hk hT h42
  by_cases h43 : t.op = 43
  · simpa [gC, h43] using aDf t u w μ hμ hk hT h43
  by_cases h44 : t.op = 44
  · simpa [gC, h44] using aDe t u w μ hμ hk hT h44
  by_cases h45 : t.op = 45
  · simpa [gC, h45] using aDd t u w μ hμ hk hT h45
  by_cases h46 : t.op = 46
  · simpa [gC, h46] using aDc t u w μ hμ hk hT h46
  have ho := hk.one
  refine aA (args := [.agg (aD t u).toArray]) Tryz.func117 rfl Tryz.ntmps117 (by simp) hμ ?_
  repeat' (first | refine KO ?_ | ((with_reducible apply F1 146); exact rfl; exact EN; (exact fun w μc hw hse => uN t.s hss w μc hw)) | refine KI ?_ | refine NB fun b => ?_ | ((refine KB ?_ ?_ <;> intro hp)) | refine KG ?_ | fail)
  all_goals (refine aB rfl rfl ?_; simp_all [gC])
end Go.Proofs.YtocidaibmadekaaGreatDoor
namespace Go.Proofs.YtocidaibmadekaaGreatDoor
open Go.RowKit Go.Vcg
theorem DU (l : List Int) (r : Int) : decide (r ∈ l) = l.contains r := by rw [List.contains_eq_mem]
attribute [local irreducible] anI fV mkD G GC GQ GA bX Calls IntKind.wrap Int.decLt Int.decLe
theorem GU (f : FuncId) (cap : List Value) (q1 : Int → Bool) (l : List Int) (A : Option Addr) (n c : Nat) (w : World) (μ : Mem) (hμ : MOk μ w) (hcal : dI Tryz.prog f = true) (hS : Sl KT 1 μ A n l) (hn : n ≤ 1000000) (hf1 : ∀ (o : Int) (w : World) (μ' : Mem), MOk μ' w → MLe μ μ' → Calls Tryz.prog f ([Value.int .i64 o] ++ cap).toArray w fun e w' => e = .returned (.bool (q1 o)) ∧ Below w.heap.size w w') :
    Calls Tryz.prog 179 #[.slice A n c, .func (.func f) #[] cap.toArray] w fun e w' => e = .returned (.int .i64 (firstT (l.map q1))) ∧ Below w.heap.size w w' := by
  refine aA (args := [.slice A n c, .func (.func f) #[] cap.toArray]) Tryz.func179 rfl Tryz.ntmps179 (by simp) hμ ?_
  have hln : l.length = n := hS.1
  have hqn : (l.map q1).length = n := by rw [List.length_map]; exact hln
  repeat' (first | refine KK ?_ | fail)
  refine aX (ι := Nat) (fun k => k ≤ n ∧ ∀ (j : Nat) (q : Bool), j < k → (l.map q1)[j]? = some q → q = false) (fun k => n - k) (fun _ => μ) (fun k => [(8, .int .i64 k), (7, .int .i64 n), (6, .slice A n c), (0, .slice A n c), (1, .func (.func f) #[] cap.toArray)]) (fun _ => []) 0 ⟨by omega, fun j _ h => absurd h (by omega)⟩ (fun a w hs => J5 hs) ?_
  rintro k ⟨hk, hf⟩
  by_cases hlt : k < n
  · obtain ⟨ad, o, rfl, ho, hm⟩ := hS.get hlt
    have hqk : (l.map q1)[k]? = some (q1 o) := by rw [List.getElem?_map, ho]; rfl
    have hc := fun (w : World) (μc : Mem) (hw : MOk μc w) (hle : MLe μ μc) => hf1 o w μc hw hle
    generalize q1 o = q at hqk hc
    have hnext : q = false → ∀ (j : Nat) (q : Bool), j < k + 1 → (l.map q1)[j]? = some q → q = false := fun h j p hj hp => by
      rcases Nat.lt_or_ge j k with h1 | h1
      · exact hf j p h1 hp
      · obtain rfl : j = k := by omega
        rw [hqk] at hp
        cases hp
        exact h
    cases q
    · have hb := hnext rfl
      repeat' (first | refine KO ?_ | ((with_reducible apply C1); exact rfl; exact EN; exact fun w μc hw hse => hc w μc hw hse.le) | (refine KV (b := by first | exact U1 k | exact U3 (hm.at 0 rfl)) (c := ?_)) | refine KI ?_ | fail)
      all_goals try (exfalso; first | fail)
      all_goals exact J2 (k + 1) ⟨by omega, hb⟩ (by omega)
    · repeat' (first | refine KO ?_ | ((with_reducible apply C1); exact rfl; exact EN; exact fun w μc hw hse => hc w μc hw hse.le) | (refine KV (b := by first | exact U1 k | exact U3 (hm.at 0 rfl)) (c := ?_)) | fail)
      all_goals try (exfalso; first | fail)
      all_goals refine aB rfl rfl ?_
      all_goals rw [lQ hqk hf]
  · repeat' (first | refine KK ?_ | fail)
    all_goals try (exfalso; first | fail)
    refine aB rfl rfl ?_
    rw [iT (fun j q hj => hf j q (by have := (List.getElem?_eq_some_iff.1 hj).1; omega) hj)]
theorem yU (f : FuncId) (cap : List Value) (q1 : Int → Bool) (l : List Int) (v : Value) (w : World) (μ : Mem) (hμ : MOk μ w) (hcal : dI Tryz.prog f = true) (hv : IsV μ v l) (hn : l.length ≤ 1000000) (hf1 : ∀ (o : Int) (w : World) (μ' : Mem), MOk μ' w → MLe μ μ' → Calls Tryz.prog f ([Value.int .i64 o] ++ cap).toArray w fun e w' => e = .returned (.bool (q1 o)) ∧ Below w.heap.size w w') :
    Calls Tryz.prog 174 #[v, .func (.func f) #[] cap.toArray] w fun e w' => e = .returned (.bool (l.any q1)) ∧ Below w.heap.size w w' := by
  obtain ⟨A, c, rfl, hS, -⟩ := hv
  refine aA (args := [.slice A l.length c, .func (.func f) #[] cap.toArray]) Tryz.func174 rfl Tryz.ntmps174 (by simp) hμ ?_
  have h : decide (0 ≤ firstT (l.map q1)) = l.any q1 := by rw [jY, List.any_map]; rfl
  rw [← h]
  repeat' (first | refine KO ?_ | ((with_reducible apply C1); exact rfl; exact EN; exact fun w μc hw hse => GU f cap q1 l A l.length c w μc hw hcal (hS.mono hse.le) hn (fun o w μ' h2 h3 => hf1 o w μ' h2 (hse.le.trans h3))) | fail)
  exact aB rfl rfl rfl
theorem HT (r : Int) (d : ED) (dv : Value) (bc : Nat) (w : World) (μ : Mem) (hμ : MOk μ w) (hd : IsV μ dv d.ins) (hl : d.ins.length ≤ 100000) (hm : cQ μ ⟨bc, 0, none⟩ (jJ (d, dv))) :
    Calls Tryz.prog 175 ([Value.int .i64 r] ++ [Value.pointer (some ⟨bc, 0, none⟩)]).toArray w fun e w' => e = .returned (.bool (d.ins.contains r)) ∧ Below w.heap.size w w' := by
  refine aA (args := [.int .i64 r, .pointer (some ⟨bc, 0, none⟩)]) Tryz.func175 rfl Tryz.ntmps175 (by simp) hμ ?_
  have ho := hd.one
  rw [← DU]
  obtain ⟨A, c, rfl, hS, -⟩ := hd
  have hm' : cQ μ ⟨bc, 0, none⟩ [.bool d.lex, .slice A d.ins.length c, .int .i64 d.par, .bool d.twice] := hm
  have hc1 : iF μ ⟨bc, 0 + 1, none⟩ (.slice A d.ins.length c) := hm' 1 _ rfl
  repeat' (first | refine KO ?_ | ((with_reducible apply C1); exact rfl; exact EN; exact fun w μc hw hse => rM r d.ins A d.ins.length c w μc hw (hS.mono hse.le) hl) | (refine KV (b := by ((with_reducible apply eC); exact rfl; exact rfl; exact hc1)) (c := ?_)) | fail)
  exact aB rfl rfl rfl
theorem xA {b t sz : Nat} {cs : aI} {vs : List Value} {μ : Mem} (h : Bk.sh (.inl ⟨b, t, sz, cs⟩) μ) (hv : ∀ j v, vs[j]? = some v → lk cs j = some v) : cQ μ ⟨b, 0, none⟩ vs := fun j v hj => by
  obtain ⟨arr, h1, _, h3⟩ := h
  have e : Addr.add ⟨b, 0, none⟩ j = ⟨b, j, none⟩ := by cases j <;> simp [Addr.add]
  rw [e]
  exact ⟨arr, t, (0, 0), h1, rfl, h3 j v (hv j v hj)⟩
theorem kF {vs : List Value} {j : Nat} {v : Value} (h : vs[j]? = some v) : lk (idx 0 vs) j = some v := by have h2 := AV vs 0 j v h; rwa [Nat.zero_add] at h2
theorem LH (a d : ED) (av dv : Value) (w : World) (μ : Mem) (hμ : MOk μ w) (ha : IsV μ av a.ins) (hd : IsV μ dv d.ins) (hal : a.ins.length ≤ 100000) (hl : d.ins.length ≤ 100000) :
    Calls Tryz.prog 164 #[.agg (jJ (a, av)).toArray, .agg (jJ (d, dv)).toArray] w fun e w' => e = .returned (.bool (gO a d)) ∧ Below w.heap.size w w' := by
  have oa := ha.one
  have od := hd.one
  refine aA (args := [.agg (jJ (a, av)).toArray, .agg (jJ (d, dv)).toArray]) Tryz.func164 rfl Tryz.ntmps164 (by simp) hμ ?_
  have hcb := fun (b : Nat) (w : World) (μc : Mem) (hw : MOk μc w) (hle : MLe μ μc) (hc : cQ μc ⟨b, 0, none⟩ (jJ (d, dv))) => yU 175 [.pointer (some ⟨b, 0, none⟩)] (fun r => d.ins.contains r) a.ins av w μc hw (by kernel_rfl) (ha.mono hle) (by omega) (fun o w μ' h2 h3 => HT o d dv b w μ' h2 ((hd.mono hle).mono h3) hl (hc.mono h3))
  unfold gO
  generalize (a.ins.any fun r => d.ins.contains r) = q at hcb ⊢
  repeat' (first | refine KO ?_ | ((with_reducible apply F1 174); exact rfl; exact EN; exact fun w μc hw hse => hcb _ w μc hw hse.le (xA hse.hd (fun j v hj => kF hj))) | refine KI ?_ | refine NB fun b => ?_ | ((refine KB ?_ ?_ <;> intro hp)) | refine KG ?_ | fail)
  all_goals refine aB rfl rfl ?_
  all_goals simp_all
theorem nD (xb mb : Nat) (p : EP) (pv : Value) (s : ES) (μ : Mem) (hp : PV μ p pv) (hb : p.regs.length ≤ 100000) (hs : s.regs ≤ 1000000) :
    CEr 83 [.pointer (some ⟨xb, 0, none⟩), pv] xb mb s (cG s) μ (fun μ' v => PV μ' (fX p s) v) := by
  intro w fs hμ hR hO
  have hcnt := bG hO.diff
  obtain ⟨r, lb, lo, mi, rfl, hr, h2, h3, h4⟩ := hp
  have o1 := hr.one
  have o2 := h2.one
  have o3 := h3.one
  have o4 := h4.one
  have e1 := US p.regs
  have e2 := SX p.regs
  refine aS (args := [.pointer (some ⟨xb, 0, none⟩), .agg (cY p r lb lo mi).toArray]) Tryz.func83 rfl Tryz.ntmps83 (by simp) hμ hO ?_
  refine eO (NY xb mb s fs) ?_
  repeat' (first | refine KK ?_ | refine NB fun b => ?_ | fail)
  refine aC 13 _ (by kernel_rfl) rfl (List.Sublist.cons _ (List.Sublist.cons _ (List.Sublist.cons_cons _ (List.nil_sublist _)))) ?_
  all_goals refine DD 0 ?_
  all_goals refine DD 1 ?_
  all_goals refine DD 4 ?_
  all_goals refine DD 5 ?_
  all_goals refine DD 6 ?_
  all_goals refine DD 7 ?_
  refine dW 2 8 (by kernel_rfl) ?dr1_2 ?dr1_8
  case' dr1_2 =>
    (((with_reducible apply dL); (iterate 4 exact rfl); (((with_reducible apply oX); exact rfl; (repeat first | with_reducible exact cU | with_reducible apply gJ); exact rfl))))
    refine dW 3 8 (by kernel_rfl) ?dr2_3 ?dr2_8
    case' dr2_3 =>
      ((refine D5 ?_; (with_reducible apply F3 137); exact rfl; exact EN; (exact fun w μc hw hse => DW w μc hw p.regs r (hr.mono hse.le) (by omega)); intro vr; refine D9 ?_))
      all_goals ((refine D3 8 ?_; refine D5 ?_; refine NB fun b => ?_; refine D9 ?_))
      all_goals ((refine D3 9 ?_; refine D5 ?_; refine AI (k := fun g cap hcap => ?_); refine D9 ?_))
      all_goals refine DD 10 ?_
      all_goals refine DD 11 ?_
      all_goals ((refine D3 12 ?_; refine D5 ?_; refine Y0 ?_; refine D9 ?_))
      all_goals refine D8 ?_
    case' dr2_8 =>
      ((refine D5 ?_; refine NB fun b => ?_; refine D9 ?_))
      all_goals ((refine D3 3 ?_; refine D5 ?_; (with_reducible apply F3 137); exact rfl; exact EN; (exact fun w μc hw hse => DW w μc hw p.regs r (hr.mono hse.le) (by omega)); intro vr; refine D9 ?_))
      all_goals ((refine D3 9 ?_; refine D5 ?_; refine AI (k := fun g cap hcap => ?_); refine D9 ?_))
      all_goals refine DD 10 ?_
      all_goals refine DD 11 ?_
      all_goals ((refine D3 12 ?_; refine D5 ?_; refine Y0 ?_; refine D9 ?_))
      all_goals refine D8 ?_
  case' dr1_8 =>
    ((refine D5 ?_; refine NB fun b => ?_; refine D9 ?_))
    all_goals ((refine D3 2 ?_; (with_reducible apply dL); (iterate 4 exact rfl); (((with_reducible apply oX); exact rfl; (repeat first | with_reducible exact cU | with_reducible apply gJ); exact rfl))))
    all_goals ((refine D3 3 ?_; refine D5 ?_; (with_reducible apply F3 137); exact rfl; exact EN; (exact fun w μc hw hse => DW w μc hw p.regs r (hr.mono hse.le) (by omega)); intro vr; refine D9 ?_))
    all_goals ((refine D3 9 ?_; refine D5 ?_; refine AI (k := fun g cap hcap => ?_); refine D9 ?_))
    all_goals refine DD 10 ?_
    all_goals refine DD 11 ?_
    all_goals ((refine D3 12 ?_; refine D5 ?_; refine Y0 ?_; refine D9 ?_))
    all_goals refine D8 ?_
  all_goals repeat' (first | refine KK ?_ | fail)
  all_goals first
    | (refine sC rfl ?_; intro μ4 hle4 hsh4; have hv := IsV.iY (xs := p.regs ++ [((s.regs + 1 : Nat) : Int)]) hsh4 (by simp) (by rw [List.flatMap_append]; rfl))
    | (refine sB rfl ?_; intro μ4 hle4 hsh4; have hv := IsV.iY (xs := p.regs ++ [((s.regs + 1 : Nat) : Int)]) hsh4 (by simp) (by rw [List.flatMap_append]; rfl))
  all_goals refine fT (L' := .inl ⟨_, 93, 12, idx 0 (cY (fX p s) (.slice (some ⟨g, 0, none⟩) (p.regs.length + 1) cap) lb lo mi)⟩ :: EB xb mb (cG s) fs) (by unfold EB; exact bH (.cells PU) (oN (.cells PU) (oN (.refl _) (aO _ (aO _ (bV _)))))) ?_
  all_goals exact MH 1 fs hcnt rfl (nT 0 rfl rfl rfl rfl rfl (by repeat first | exact aJ | refine aF rfl ?_)) rfl rfl (fun μ' hle => ⟨⟨hR.1, (hR.mono (hle4.trans hle)).2⟩, _, lb, lo, mi, rfl, hv.mono hle, h2.mono (hle4.trans hle), h3.mono (hle4.trans hle), h4.mono (hle4.trans hle)⟩)
end Go.Proofs.YtocidaibmadekaaGreatDoor
namespace Go.Vcg
open Go.RowKit
section
variable {P : Program} {μ : Mem} {l : aI} {L : List Bk} {ty : TypeId} {pos : String} {af : Array Edge} {gd : Option (Nat × Bool)} {ds : Option Nat}
theorem uU {p q r : Operand} {t : TypeId} {b b' : ByteArray} {j i : Int} (k m : Nat) (he : b.extract k m = b') (ht : P.underlying t = some .string) (hx : ev l p = some (.string b)) (hq : ev l q = some (.int .i64 j)) (hj : j = (k : Int)) (hr' : ev l r = some (.int .i64 i)) (hi : i = (m : Int)) (hk : k ≤ m) (hm : m ≤ b.size) :
    Val P μ l L ⟨ds, .slice t p (some q) (some r) none, ty, pos, af, gd⟩ (.string b') := by
  rw [← he]
  exact HZ k m ht hx hq hj hr' hi hk hm
end
end Go.Vcg
namespace Go.Proofs.YtocidaibmadekaaGreatDoor
open Go.RowKit Go.Vcg Ou
theorem CY (l : List UInt8) : (ofB l).size = l.length := by simp [ofB, ByteArray.size]
theorem BV (l : List UInt8) : bl (ofB l) = l := by simp [bl, ofB]
theorem VY {s : ByteArray} {i : Nat} (h : i < s.size) : ∃ b, (bl s)[i]? = some b ∧ bAt s i = b.toNat := by
  have : i < (bl s).length := by rw [sK]; exact h
  exact ⟨(bl s)[i], List.getElem?_eq_getElem this, aAa (List.getElem?_eq_getElem this)⟩
theorem nJ (x : Int) (c : UInt8) (b : Bool) (hx : x = c.toNat) (hb : Iq.fS c = b) (w : World) (μ : Mem) (hμ : MOk μ w) : Calls Tryz.prog 176 #[.int .u8 x] w fun e w' => e = .returned (.bool b) ∧ Below w.heap.size w w' := by
  subst hb
  exact GG x c hx w μ hμ
theorem lW (c : UInt8) : Iq.jB c = true ↔ Iq.fS c = true ∨ (48 ≤ (c.toNat : Int) ∧ (c.toNat : Int) ≤ 57) := by
  unfold Iq.jB
  rw [Bool.or_eq_true, Bool.and_eq_true, decide_eq_true_eq, decide_eq_true_eq]
  exact or_congr Iff.rfl (by omega)
theorem AS {l : List UInt8} {j : Nat} {c : UInt8} (hj : j ≤ (fD l).length) (h0 : j = 0 → Iq.fS c = true) (hc : l[j]? = some c) (h : Iq.jB c = true) (hs : fD l ≠ [] ∨ j = 0) : j + 1 ≤ (fD l).length := by
  cases l with
  | nil => simp at hc
  | cons x r =>
    unfold fD at hj hs ⊢
    dsimp only at hj hs ⊢
    cases j with
    | zero =>
      simp at hc
      subst hc
      rw [if_pos (h0 rfl)]
      simp
    | succ j =>
      by_cases hx : Iq.fS x = true
      · rw [if_pos hx] at hj ⊢
        rw [List.getElem?_cons_succ] at hc
        simp only [List.length_cons] at hj ⊢
        rcases Nat.lt_or_ge j (r.takeWhile Iq.jB).length with h1 | h1
        · omega
        · have e : j = (r.takeWhile Iq.jB).length := by omega
          rw [e] at hc
          have := RT _ _ hc
          rw [h] at this
          cases this
      · rw [if_neg hx] at hs
        rcases hs with hs | hs
        · exact absurd rfl hs
        · omega
theorem OS {l : List UInt8} {j : Nat} (hj : j ≤ (fD l).length) (h : l.length ≤ j ∨ ∃ c, l[j]? = some c ∧ Iq.jB c = false) : (fD l).length = j := by
  cases l with
  | nil => simp [fD] at hj ⊢; omega
  | cons x r =>
    unfold fD at hj ⊢
    dsimp only at hj ⊢
    by_cases hx : Iq.fS x = true
    · rw [if_pos hx] at hj ⊢
      simp only [List.length_cons] at hj ⊢
      have hle := (List.takeWhile_prefix (l := r) Iq.jB).length_le
      rcases h with h | ⟨c, hc, h⟩
      · simp at h
        omega
      · cases j with
        | zero =>
          simp at hc
          subst hc
          have : Iq.jB x = true := (lW x).2 (.inl hx)
          rw [this] at h
          cases h
        | succ j =>
          rw [List.getElem?_cons_succ] at hc
          rcases Nat.lt_or_ge j (r.takeWhile Iq.jB).length with h1 | h1
          · obtain ⟨d, h2, h3⟩ := RS _ _ h1
            rw [h2] at hc
            cases hc
            rw [h3] at h
            cases h
          · omega
    · rw [if_neg hx] at hj ⊢
      simp at hj ⊢
      omega
theorem TC {l : List UInt8} : (ofB l).extract 0 (fD l).length = ofB (fD l) := by
  apply LN
  rw [LO, BV, BV, Nat.sub_zero, List.drop_zero]
  cases l with
  | nil => rfl
  | cons x r =>
    unfold fD
    dsimp only
    by_cases hx : Iq.fS x = true
    · rw [if_pos hx, List.length_cons, List.take_succ_cons, ← List.prefix_iff_eq_take.1 (List.takeWhile_prefix _)]
    · rw [if_neg hx]
      rfl
theorem XV (l : List UInt8) : (fD l).length ≤ l.length := by
  cases l with
  | nil => simp [fD]
  | cons x r =>
    unfold fD
    dsimp only
    have hle := (List.takeWhile_prefix (l := r) Iq.jB).length_le
    split <;> simp <;> omega
attribute [local irreducible] G GC GQ GA bX Calls IntKind.wrap Int.decLt Int.decLe
theorem JO (l : List UInt8) (hl : l.length ≤ 1000000) (w : World) (μ : Mem) (hμ : MOk μ w) : Calls Tryz.prog 165 #[.string (ofB l), .int .i64 0] w fun e w' => e = .returned (.tuple #[.string (ofB (fD l)), .int .i64 (fD l).length]) ∧ Below w.heap.size w w' := by
  refine aA (args := [.string (ofB l), .int .i64 0]) Tryz.func165 rfl Tryz.ntmps165 (by simp) hμ ?_
  have hsz := CY l
  by_cases h0 : l = []
  · subst h0
    have hz : (ofB ([] : List UInt8)).size = 0 := rfl
    repeat' (first | refine KK ?_ | refine KG ?_ | fail)
    all_goals first | skip
    all_goals exact rY rfl (bJ rfl) (bJ rfl) rfl rfl
  obtain ⟨c, r, rfl⟩ : ∃ c r, l = c :: r := by
    cases l with
    | nil => exact absurd rfl h0
    | cons c r => exact ⟨c, r, rfl⟩
  have hpos : 0 < (c :: r).length := by simp
  obtain ⟨c0, hb1, hb2⟩ := VY (s := ofB (c :: r)) (i := 0) (by omega)
  rw [BV] at hb1
  cases hb1
  cases hc : Iq.fS c with
  | false =>
    have hn : fD (c :: r) = [] := by
      unfold fD
      simp [hc]
    rw [hn]
    repeat' (first | refine KO ?_ | ((with_reducible apply F1 176); exact rfl; exact EN; (exact fun w μc hw hse => nJ _ c false (by omega) hc w μc hw)) | (refine KV (b := by exact U2 0) (c := ?_)) | refine KG ?_ | fail)
    all_goals first | skip
    all_goals exact rY rfl (bJ rfl) (bJ rfl) rfl rfl
  | true =>
    have hle := XV (c :: r)
    have hext := TC (l := c :: r)
    have hne : 1 ≤ (fD (c :: r)).length := AS (Nat.zero_le _) (fun _ => hc) rfl ((lW c).2 (.inl hc)) (.inr rfl)
    have hmore := fun (j : Nat) (d : UInt8) (hj : j ≤ (fD (c :: r)).length) (h1 : j = 0 → Iq.fS d = true) (h2 : (c :: r)[j]? = some d) (h3 : Iq.jB d = true) => AS hj h1 h2 h3 (.inl (by intro h; rw [h] at hne; simp at hne))
    have hstop := fun (j : Nat) => OS (l := c :: r) (j := j)
    have hcl : (c :: r)[0]? = some c := rfl
    generalize fD (c :: r) = u at hle hext hne hmore hstop ⊢
    generalize hlg : c :: r = l at *
    repeat' (first | refine KO ?_ | ((with_reducible apply F1 176); exact rfl; exact EN; (exact fun w μc hw hse => nJ _ c true (by omega) hc w μc hw)) | (refine KV (b := by exact U2 0) (c := ?_)) | refine KI ?_ | refine KG ?_ | fail)
    all_goals first | skip
    all_goals refine aX (ι := Nat) (fun j => 1 ≤ j ∧ j ≤ u.length) (fun j => l.length - j) (fun _ => μ) (fun j => [(6, .int .i64 (j : Int)), (1, .int .i64 0), (0, .string (ofB l)), (4, .string ⟨#[]⟩), (5, .int .i64 0)]) (fun _ => []) 1 ⟨by omega, by omega⟩ (fun a w hs => hs.sel PU PS) ?_
    intro j ⟨hj0, hj⟩
    clear hb2
    by_cases hlt : j < l.length
    · obtain ⟨d, hb1, hb2⟩ := VY (s := ofB l) (i := j) (by omega)
      rw [BV] at hb1
      have hd0 : j = 0 → d = c := by
        intro h
        rw [h, hcl] at hb1
        exact (Option.some.inj hb1).symm
      cases hds : Iq.fS d with
      | true =>
        have hw := hmore j d hj (fun _ => hds) hb1 ((lW d).2 (.inl hds))
        repeat' (first | refine KO ?_ | ((with_reducible apply F1 176); exact rfl; exact EN; (exact fun w μc hw hse => nJ _ d true (by omega) hds w μc hw)) | (refine KV (b := by exact U2 j) (c := ?_)) | refine KI ?_ | refine KG ?_ | fail)
        all_goals first | skip
        all_goals refine bD (j + 1) ⟨by omega, hw⟩ (by omega) rfl PU PS
      | false =>
        by_cases hdg : 48 ≤ (d.toNat : Int) ∧ (d.toNat : Int) ≤ 57
        · have hw := hmore j d hj (fun h => by rw [hd0 h]; exact hc) hb1 ((lW d).2 (.inr hdg))
          repeat' (first | refine KO ?_ | ((with_reducible apply F1 176); exact rfl; exact EN; (exact fun w μc hw hse => nJ _ d false (by omega) hds w μc hw)) | (refine KV (b := by exact U2 j) (c := ?_)) | refine KI ?_ | refine KG ?_ | fail)
          all_goals first | skip
          all_goals refine bD (j + 1) ⟨by omega, hw⟩ (by omega) rfl PU PS
        · have hw := hstop j hj (.inr ⟨d, hb1, by
            cases hp : Iq.jB d with
            | false => rfl
            | true => rcases (lW d).1 hp with h | h
                      · rw [hds] at h; cases h
                      · exact absurd h hdg⟩)
          subst hw
          repeat' (first | refine KO ?_ | ((with_reducible apply F1 176); exact rfl; exact EN; (exact fun w μc hw hse => nJ _ d false (by omega) hds w μc hw)) | (refine KV (b := by first | exact U2 u.length | ((with_reducible apply uU 0 u.length hext); (iterate 3 exact rfl); rfl; exact rfl; rfl; omega; (rw [CY]; omega))) (c := ?_)) | ((refine KB ?_ ?_ <;> intro hp)) | refine KG ?_ | fail)
          all_goals first | skip
          all_goals exact rY rfl (bJ rfl) (bJ rfl) rfl rfl
    · have hw := hstop j hj (.inl (by omega))
      subst hw
      repeat' (first | refine KO ?_ | (refine KV (b := by ((with_reducible apply uU 0 u.length hext); (iterate 3 exact rfl); rfl; exact rfl; rfl; omega; (rw [CY]; omega))) (c := ?_)) | refine KG ?_ | fail)
      all_goals first | skip
      all_goals exact rY rfl (bJ rfl) (bJ rfl) rfl rfl
end Go.Proofs.YtocidaibmadekaaGreatDoor
namespace Go.Vcg
open Go.RowKit Go.Proofs.YtocidaibmadekaaGreatDoor Go.Proofs.YtocidaibmadekaaGreatDoor.Ou
section
variable {P : Program} {μ : Mem} {l : aI} {L : List Bk} {ty : TypeId} {pos : String} {af : Array Edge} {gd : Option (Nat × Bool)} {ds : Option Nat}
theorem RQ {p q : Operand} {t t2 : TypeId} {a b : List UInt8} (h0 : ev l p = some (.string (ofB a))) (h1 : ev l q = some (.string (ofB b))) (hb : a.length + b.length ≤ 9000000000000000000) :
    Val P μ l L ⟨ds, .binOp .add t p q t2, ty, pos, af, gd⟩ (.string (ofB (a ++ b))) := by
  have h := IA (P := P) (μ := μ) (L := L) (ds := ds) (ty := ty) (pos := pos) (af := af) (gd := gd) (t := t) (t2 := t2) h0 h1 (by
    have e : ∀ l : List UInt8, (ofB l).size = l.length := fun l => by simp [ofB, ByteArray.size]
    rw [e, e]; omega)
  have e : ofB a ++ ofB b = ofB (a ++ b) := by
    apply ZX
    rw [ZW]
    show ((ofB a) ++ (ofB b)).data.toList = _
    rw [ByteArray.data_append]
    simp [ofB]
  rw [← e]
  exact h
end
end Go.Vcg
namespace Go.Proofs.YtocidaibmadekaaGreatDoor
open Go.RowKit Go.Vcg Go.Shelf Ou
def mF (μ : Mem) : Prop := ∃ m : Int, iF μ ⟨2, 0, none⟩ (.int .i64 m)
theorem mF.mono {μ μ' : Mem} (h : mF μ) (hle : MLe μ μ') : mF μ' := by
  obtain ⟨m, hm⟩ := h
  exact ⟨m, hm.mono hle⟩
theorem GF (s t : List UInt8) (hs : s.length ≤ 3000000) (w : World) (μ : Mem) (hμ : MOk μ w) (hm : mF μ) : Calls Tryz.prog 177 #[.string (ofB s), .string (ofB t)] w fun e w' => e = .returned (.int .i64 (Lib.index s t)) ∧ Below w.heap.size w w' := by
  obtain ⟨m, a, t', f, h1, h2, h3⟩ := hm
  have hc : w.cell? ⟨2, 0, none⟩ = some (.int .i64 m) := by
    have hw := hμ _ _ h1
    simp only at hw
    simp [World.cell?, hw, h3]
  refine (Any.strings_Index Tryz.lays143 (ofB s) (ofB t) m w (show s.toArray.size < _ by simp; omega) hc).mono fun e w' he => ?_
  obtain ⟨rfl, rfl⟩ := he
  refine ⟨?_, rfl, rfl, rfl, Nat.le_refl _, fun _ _ => rfl⟩
  simp [ofB]
def EA : List UInt8 := [32, 98, 114, 101, 97, 107, 32, 99, 97, 115, 101, 32, 99, 97, 116, 99, 104, 32, 99, 108, 97, 115, 115, 32, 99, 111, 110, 115, 116, 32, 99, 111, 110, 116, 105, 110, 117, 101, 32, 100, 101, 98, 117, 103, 103, 101, 114, 32, 100, 101, 102, 97, 117, 108, 116, 32, 100, 101, 108, 101, 116, 101, 32, 100, 111, 32, 101, 108, 115, 101, 32, 101, 110, 117, 109, 32, 101, 120, 112, 111, 114, 116, 32, 101, 120, 116, 101, 110, 100, 115, 32, 102, 97, 108, 115, 101, 32, 102, 105, 110, 97, 108, 108, 121, 32, 102, 111, 114, 32, 102, 117, 110, 99, 116, 105, 111, 110, 32, 105, 102, 32, 105, 109, 112, 111, 114, 116, 32, 105, 110, 32, 105, 110, 115, 116, 97, 110, 99, 101, 111, 102, 32, 110, 101, 119, 32, 110, 117, 108, 108, 32, 114, 101, 116, 117, 114, 110, 32, 115, 117, 112, 101, 114, 32, 115, 119, 105, 116, 99, 104, 32, 116, 104, 105, 115, 32, 116, 104, 114, 111, 119, 32, 116, 114, 117, 101, 32, 116, 114, 121, 32, 116, 121, 112, 101, 111, 102, 32, 118, 97, 114, 32, 118, 111, 105, 100, 32, 119, 104, 105, 108, 101, 32, 119, 105, 116, 104, 32]
def CL : List UInt8 := [32, 105, 109, 112, 108, 101, 109, 101, 110, 116, 115, 32, 105, 110, 116, 101, 114, 102, 97, 99, 101, 32, 108, 101, 116, 32, 112, 97, 99, 107, 97, 103, 101, 32, 112, 114, 105, 118, 97, 116, 101, 32, 112, 114, 111, 116, 101, 99, 116, 101, 100, 32, 112, 117, 98, 108, 105, 99, 32, 115, 116, 97, 116, 105, 99, 32, 121, 105, 101, 108, 100, 32]
def wdL (l : List UInt8) : Int := if fD l = [] ∨ fD l ≠ l then 0 else if Lib.contains EA ([32] ++ l ++ [32]) then 1 else if Lib.contains CL ([32] ++ l ++ [32]) then 2 else 0
def wdF (s : ByteArray) : Int := wdL (bl s)
attribute [local irreducible] G GC GQ GA bX Calls IntKind.wrap Int.decLt Int.decLe
theorem pN (s t : List UInt8) (hs : s.length ≤ 3000000) (w : World) (μ : Mem) (hμ : MOk μ w) (hm : mF μ) : Calls Tryz.prog 166 #[.string (ofB s), .string (ofB t)] w fun e w' => e = .returned (.bool (Lib.contains s t)) ∧ Below w.heap.size w w' := by
  refine aA (args := [.string (ofB s), .string (ofB t)]) Tryz.func166 rfl Tryz.ntmps166 (by simp) hμ ?_
  unfold Lib.contains
  have hi := fun w μc hw hm => GF s t hs w μc hw hm
  generalize Lib.index s t = k at hi ⊢
  repeat' (first | refine KO ?_ | ((with_reducible apply F1 177); exact rfl; exact EN; (exact fun w μc hw hse => hi w μc hw (hm.mono hse.le))) | fail)
  all_goals first | skip
  all_goals exact aB rfl rfl rfl
attribute [local irreducible] Lib.contains fD
theorem JN (l : List UInt8) (hl : l.length ≤ 1000000) (w : World) (μ : Mem) (hμ : MOk μ w) (hm : mF μ) : Calls Tryz.prog 139 #[.string (ofB l)] w fun e w' => e = .returned (.int .i64 (wdL l)) ∧ Below w.heap.size w w' := by
  generalize hR : wdL l = R
  unfold wdL at hR
  have hn := fun (w : World) (μc : Mem) (hw : MOk μc w) => JO l hl w μc hw
  have hcA := fun (w : World) (μc : Mem) (hw : MOk μc w) (hle : MLe μ μc) => pN EA ([32] ++ l ++ [32]) (by decide) w μc hw (hm.mono hle)
  have hcS := fun (w : World) (μc : Mem) (hw : MOk μc w) (hle : MLe μ μc) => pN CL ([32] ++ l ++ [32]) (by decide) w μc hw (hm.mono hle)
  refine aA (args := [.string (ofB l)]) Tryz.func139 rfl Tryz.ntmps139 (by simp) hμ ?_
  dsimp only [List.append]
  have hof : ∀ {a c : List UInt8}, ofB a = ofB c → a = c := fun {a c} h => by have := congrArg bl h; rwa [BV, BV] at this
  by_cases h0 : fD l = []
  · rw [if_pos (.inl h0)] at hR
    subst hR
    rw [h0] at hn
    have hz : (ofB ([] : List UInt8)) = ⟨#[]⟩ := rfl
    repeat' (first | refine KO ?_ | ((with_reducible apply F1 165); exact rfl; exact EN; (exact fun w μc hw hse => hn w μc hw)) | fail)
    all_goals exact aB rfl rfl rfl
  have hz : ¬ofB (fD l) = ⟨#[]⟩ := fun h => h0 (hof (c := []) h)
  by_cases h1 : fD l = l
  rotate_left
  · rw [if_pos (.inr h1)] at hR
    subst hR
    have h2 : ¬ofB (fD l) = ofB l := fun h => h1 (hof h)
    generalize fD l = u at hn hz h2
    repeat' (first | refine KO ?_ | ((with_reducible apply F1 165); exact rfl; exact EN; (exact fun w μc hw hse => hn w μc hw)) | refine KG ?_ | fail)
    all_goals exact aB rfl rfl rfl
  rw [if_neg (fun h => h.elim h0 (fun h => h h1))] at hR
  rw [h1] at hn hz
  generalize Lib.contains EA ([32] ++ l ++ [32]) = cA at hR hcA
  generalize Lib.contains CL ([32] ++ l ++ [32]) = cS at hR hcS
  repeat' (first | refine KO ?_ | ((with_reducible apply F1 165); exact rfl; exact EN; (exact fun w μc hw hse => hn w μc hw)) | ((with_reducible apply F1 166); exact rfl; exact EN; (first | exact fun w μc hw hse => hcA w μc hw hse.le | exact fun w μc hw hse => hcS w μc hw hse.le)) | (refine KV (b := by first | ((with_reducible apply RQ (a := [32])); exact rfl; exact rfl; (simp only [List.length_cons, List.length_nil]; omega)) | ((with_reducible apply RQ (b := [32])); exact rfl; exact rfl; (simp only [List.length_append, List.length_cons, List.length_nil]; omega))) (c := ?_)) | ((refine KB ?_ ?_ <;> intro hp)) | refine KG ?_ | fail)
  all_goals first | skip
  all_goals refine aB rfl rfl ?_
  all_goals simp_all
end Go.Proofs.YtocidaibmadekaaGreatDoor
namespace Go.Proofs.YtocidaibmadekaaGreatDoor
open Go.RowKit Go.Vcg Ou
theorem cN {P : Program} {fn : Func} {n : Nat} {μ μ0 : Mem} {l : aI} {L Lr : List Bk} {M : List Nat} {w : World} {xb mb : Nat} {s s' : ES} {ex : Exit} (k : Nat) (i : List FR) (he : ex = .ret ∨ ex = .normal) (hM : ∀ D, M.count D ≤ 1) (hr : fn.results = #[]) (hL : splitB k L = some (Lr, EB xb mb s i)) (hs : s = s') (hR : ER μ i s) :
    GQ ⟨w, μ0, M, n⟩ (bodyPost P fn (fun e w' => ∃ (v : Value) (μ' : Mem) (i : List FR), e = .returned v ∧ fY M w w' μ0 (EB xb mb s' i) μ' ∧ ER μ' i s')) ex μ l L := by
  subst hs
  exact pD (Ls := fun i => EB xb mb s i) (Post := fun μ' _ i => ER μ' i s) k i he hM hr hL rfl (fun μ' _ hle => hR.mono hle)
theorem JF (x : ByteArray) : ofB (bl x) = x := by
  cases x
  simp [bl, ofB]
theorem WU : ("let".toUTF8 : ByteArray) = ⟨#[108, 101, 116]⟩ := by decide +kernel
theorem OD : ("yield".toUTF8 : ByteArray) = ⟨#[121, 105, 101, 108, 100]⟩ := by decide +kernel
attribute [local irreducible] wdL anI fV mkD G GC GQ GA bX Calls IntKind.wrap Int.decLt Int.decLe
theorem aA2 (x : ByteArray) (hx : x.size ≤ 1000000) (w : World) (μ : Mem) (hμ : MOk μ w) (hm : mF μ) : Calls Tryz.prog 139 #[.string x] w fun e w' => e = .returned (.int .i64 (wdF x)) ∧ Below w.heap.size w w' := by
  have h := JN (bl x) (by rw [sK]; exact hx) w μ hμ hm
  rwa [JF] at h
theorem kB (xb mb : Nat) (t : T) (u : Value) (hu : u.oneCell' = true) (x : ByteArray) (hx : x.size ≤ 1000000) (p : EP) (pv : Value) (s : ES) (μ : Mem) (hp : PV μ p pv) (hm : mF μ) :
    CEs 88 [.pointer (some ⟨xb, 0, none⟩), .agg (aD t u).toArray, .string x, pv] xb mb s (iR wdF t x p s) μ := by
  intro w fs hμ hR hO
  have hcnt := bG hO.diff
  obtain ⟨r, lb, lo, mi, rfl, hr, h2, h3, h4⟩ := hp
  have o1 := hr.one
  have o2 := h2.one
  have o3 := h3.one
  have o4 := h4.one
  have hw := fun (w : World) (μc : Mem) (hw : MOk μc w) (hle : MLe μ μc) => aA2 x hx w μc hw (hm.mono hle)
  generalize hs' : iR wdF t x p s = s'
  unfold iR at hs'
  generalize wdF x = wd at hw hs'
  refine aS (args := [.pointer (some ⟨xb, 0, none⟩), .agg (aD t u).toArray, .string x, .agg (cY p r lb lo mi).toArray]) Tryz.func88 rfl Tryz.ntmps88 (by simp) hμ hO ?_
  rw [WU, OD] at hs'
  repeat' (first | refine KO ?_ | (refine CF 89 ?_; (with_reducible apply dJ 2); (iterate 3 exact rfl); ((with_reducible apply bZ); kernel_rfl; (iterate 4 exact rfl)); exact rfl; (exact hR); (exact jG xb mb t _ hu _ _ _ _); (intro v1 μ1 i1 hle1 hR); (dsimp only [List.cons_append, List.nil_append])) | ((with_reducible apply F1 139); exact rfl; exact EN; (exact fun w μc hw' hse => hw w μc hw' hse.le)) | refine KI ?_ | refine NB fun b => ?_ | ((refine KB ?_ ?_ <;> intro hp)) | refine KG ?_ | fail)
  all_goals exact cN 2 i1 (.inr rfl) hcnt rfl rfl (by rw [← hs']; simp_all) hR
end Go.Proofs.YtocidaibmadekaaGreatDoor
