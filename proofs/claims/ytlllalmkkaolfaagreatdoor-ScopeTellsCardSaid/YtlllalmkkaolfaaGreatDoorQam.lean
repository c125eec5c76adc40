/- The reference's one, template and chained. -/
import Derived.Test.YtlllalmkkaolfaaGreatDoorQal
set_option maxRecDepth 20000
set_option maxHeartbeats 2000000
namespace Go.Proofs.YtlllalmkkaolfaaGreatDoor
section
open Go.RowKit Go.Vcg
attribute [local irreducible] mJ chB kU gU G GC GQ GA eN Calls IntKind.wrap Int.decLt Int.decLe
theorem DQ (s : ByteArray) (ws : List (List UInt8)) (A : Option Addr) (n c : Nat) (w : World) (μ : Mem) (hμ : MOk μ w) (o : Sl XT 1 μ A n ws) (hn : n ≤ 100000) :
 aV 91 #[.string s, .slice A n c] w (.bool (oQ s ws)) := by
 refine aE (args := [.string s, .slice A n c]) Tryz.func91 rfl Tryz.ntmps91 (by simp) hμ ?_
 have t : (tE s ws).length = n := by unfold tE; rw [aH]; exact o.1
 try repeat' (refine KZ ?_)
 refine bW (ι := Nat) (fun k => k ≤ n ∧ ∀ (j : Nat) (q : Bool), j < k → (tE s ws)[j]? = some q → q = false) (fun k => n - k) (fun _ => μ) (fun k => [(5, .int .i64 k), (1, .slice A n c), (0, .string s)]) (fun _ => []) 0 ⟨by omega, fun j _ h => absurd h (by omega)⟩ (fun a w hs => J6 hs) ?_
 rintro k ⟨hk, hf⟩
 by_cases hlt : k < n
 ·have d : (tE s ws)[k]? = some ((tE s ws)[k]'(by omega)) := aA (by omega)
  generalize (tE s ws)[k]'(by omega) = q at d
  have f : q = false → ∀ (j : Nat) (q : Bool), j < k + 1 → (tE s ws)[j]? = some q → q = false := fun h j p u l => by
   rcases cY j k with h1 | h1
   ·exact hf j p h1 l
   ·obtain rfl : j = k := by omega
    rw [d] at l
    cases l
    exact h
  obtain ⟨ad, y, rfl, r, hm⟩ := o.get hlt
  have e : q = decide (s = ⟨y.toArray⟩) := by
   have h := d
   unfold tE at h
   rw [aN, r] at h
   exact (cX h).symm
  cases g : q
  ·have hb := f g
   rw [g] at e
   have hne : ¬ (⟨y.toArray⟩ : ByteArray) = s := fun h => of_decide_eq_false e.symm h.symm
   try repeat' (first | refine KO ?_ | (refine KV (b := by first | exact U1 k | exact U3 (hm.at 0 rfl)) (c := ?_)) | refine KZ ?_)
   all_goals exact J4 (k + 1) ⟨by omega, hb⟩ (by omega)
  ·rw [g] at e d
   have he : (⟨y.toArray⟩ : ByteArray) = s := (of_decide_eq_true e.symm).symm
   have ht : oQ s ws = true := by
    unfold oQ
    rw [List.any_eq_true]
    exact ⟨true, aB d, rfl⟩
   rw [ht]
   try repeat' (first | refine KO ?_ | (refine KV (b := by first | exact U1 k | exact U3 (hm.at 0 rfl)) (c := ?_)))
   all_goals exact aJ rfl rfl rfl
 ·have ht : oQ s ws = false := by
   unfold oQ
   rw [List.any_eq_false]
   intro q g
   obtain ⟨i, hi⟩ := List.mem_iff_getElem?.1 g
   have h1 := hf i q (by have := (List.getElem?_eq_some_iff.1 hi).1; omega) hi
   simp [h1]
  rw [ht]
  try repeat' (refine KZ ?_)
  exact aJ rfl rfl rfl
theorem HS (ks : List T) (A : Option Addr) (n c : Nat) (w : World) (μ : Mem) (hμ : MOk μ w) (hk : KR μ ks (.slice A n c)) (r : ks.length = n) (hn : n ≤ 100000) (z : ∀ k ∈ ks, T.size k ≤ 100000 ∧ k.s.size ≤ 65536) :
 aV 44 #[.slice A n c] w (.bool (mJ kU ks)) := by
 refine aE (args := [.slice A n c]) Tryz.func44 rfl Tryz.ntmps44 (by simp) hμ ?_
 have v : ∀ (i : Nat) (t : T), ks[i]? = some t → ∃ a u, A = some a ∧ eM μ (a.add (i * 6)) (aY t u) ∧ u.oneCell' = true ∧ KR μ t.kids u := by
  obtain ⟨A', c', e, _, hg⟩ := hk.form
  cases e
  exact hg
 try repeat' (refine KZ ?_)
 refine bW (ι := Nat) (fun i => i ≤ n ∧ ∀ (j : Nat) (t : T), j < i → ks[j]? = some t → DF j kU t) (fun i => n - i) (fun _ => μ) (fun i => [(3, .int .i64 i), (0, .slice A n c)]) (fun _ => []) 0 ⟨by omega, fun j _ h => absurd h (by omega)⟩ (fun a w hs => J6 hs) ?_
 rintro i ⟨hi, q⟩
 by_cases hlt : i < n
 ·have l : ks[i]? = some ks[i] := aA (by omega)
  generalize ks[i] = t at l
  obtain ⟨ad, x, rfl, hm, ho, y⟩ := v i t l
  have p := z t (aB l)
  have hr : (i : Int).tmod 2 = ((i % 2 : Nat) : Int) := rfl
  have f := fun w μc hw (hle : MLe μ μc) => HT t x w μc hw (y.mono hle) p.1 p.2
  by_cases d : DF i kU t
  ·have g : ∀ (j : Nat) (t : T), j < i + 1 → ks[j]? = some t → DF j kU t := fun j t' hj ht => by
    rcases cY j i with h | h
    ·exact q j t' h ht
    ·obtain rfl : j = i := by omega
     rw [l] at ht
     cases ht
     exact d
   unfold DF at d
   by_cases h2 : i % 2 = 0
   ·rw [if_pos h2] at d
    try repeat' (first | refine KO ?_ | (refine KV (b := by first | exact U1 i | exact U4 hm) (c := ?_)) | refine KZ ?_)
    all_goals first
     | exact J2 (i + 1) ⟨by omega, g⟩ (by omega)
     | (exfalso; omega)
   ·rw [if_neg h2] at d
    rw [d] at f
    try repeat' (first | refine KO ?_ | ((with_reducible apply C1); exact rfl; exact EN; exact fun w μc hw o => f w μc hw o.le) | (refine KV (b := by first | exact U1 i | exact U4 hm) (c := ?_)) | refine KZ ?_)
    all_goals first
     | exact J2 (i + 1) ⟨by omega, g⟩ (by omega)
     | (exfalso; omega)
  ·rw [uM fun h => d (h.2 i t l)]
   unfold DF at d
   by_cases h2 : i % 2 = 0
   ·rw [if_pos h2] at d
    try repeat' (first | refine KO ?_ | (refine KV (b := by first | exact U1 i | exact U4 hm) (c := ?_)) | refine KZ ?_)
    all_goals first
     | exact aJ rfl rfl rfl
     | (exfalso; omega)
   ·rw [if_neg h2] at d
    rw [Bool.not_eq_true _ |>.mp d] at f
    try repeat' (first | refine KO ?_ | ((with_reducible apply C1); exact rfl; exact EN; exact fun w μc hw o => f w μc hw o.le) | (refine KV (b := by first | exact U1 i | exact U4 hm) (c := ?_)) | refine KZ ?_)
    all_goals first
     | exact aJ rfl rfl rfl
     | (exfalso; omega)
 ·obtain rfl : i = n := by omega
  have hr : (i : Int).tmod 2 = ((i % 2 : Nat) : Int) := rfl
  have hg : mJ kU ks = decide ((i : Int).tmod 2 = 1) := by
   by_cases h : i % 2 = 1
   ·rw [BQ ⟨by rw [r]; exact h, fun j t hj => q j t (by have := (List.getElem?_eq_some_iff.1 hj).1; omega) hj⟩]
    symm
    rw [decide_eq_true_eq]
    omega
   ·rw [uM fun hf => h (by rw [← r]; exact hf.1)]
    symm
    rw [decide_eq_false_iff_not]
    omega
  rw [hg]
  try repeat' (refine KZ ?_)
  exact aJ rfl rfl rfl
theorem CY : ∀ (n : Nat), n ≤ 100000 → ∀ (t : T) (u : Value) (w : World) (μ : Mem), MOk μ w → KR μ t.kids u → t.size ≤ n → Sh' t →
 aV 47 #[.agg (aY t u).toArray] w (.bool (chB t)) := by
 intro n
 induction n with
 | zero => intro _ t u w μ hμ hk hn; exact absurd hn (by rw [T.size_eq]; omega)
 | succ n ih =>
   intro p t u w μ hμ hk hn f
   have ho := hk.one
   have hlen := eL t
   obtain ⟨A, c, rfl, q, i⟩ := hk.form
   have a := fun w μc hw (hle : MLe μ μc) => vJ t _ w μc hw (hk.mono hle) (by omega) f.s
   refine aE (args := [.agg (aY t (.slice A t.kids.length c)).toArray]) Tryz.func47 rfl Tryz.ntmps47 (by simp) hμ ?_
   cases hl : gU t
   ·rw [hl] at a
    rw [AH (GX hl)]
    try repeat' (first | refine KO ?_ | refine K2 43 a ?_ | refine KZ ?_ | refine NB fun b => ?_)
    all_goals exact aJ rfl rfl rfl
   ·rw [hl] at a
    by_cases e : t.n = 1
    ·rw [NL (.one hl e)]
     try repeat' (first | refine KO ?_ | refine K2 43 a ?_ | refine KZ ?_ | refine NB fun b => ?_)
     all_goals exact aJ rfl rfl rfl
    ·by_cases h0 : t.kids.length = 0
     ·rw [AH (aG2 e (by rw [List.getElem?_eq_none_iff]; omega))]
      try repeat' (first | refine KO ?_ | refine K2 43 a ?_ | refine KZ ?_ | refine NB fun b => ?_)
      all_goals exact aJ rfl rfl rfl
     ·have d : t.kids[0]? = some t.kids[0] := aA (by omega)
      generalize t.kids[0] = k at d
      obtain ⟨ad2, x2, rfl, j, o, g⟩ := i 0 k d
      have r := T.fN d
      have v : chB t = chB k := by
       by_cases hc : oV k
       ·rw [NL hc, NL ((PQ hl e d).2 hc)]
       ·rw [AH hc, AH fun h => hc ((PQ hl e d).1 h)]
      have l := fun w μc hw (hle : MLe μ μc) => ih (by omega) k x2 w μc hw (g.mono hle) (by omega) (f.kid (aB d))
      rw [v]
      try repeat' (first | refine KO ?_ | refine K2 43 a ?_ | refine K2 47 l ?_ | (refine KV (b := by first | exact U1 0 | exact U4 j) (c := ?_)) | refine KZ ?_ | refine NB fun b => ?_)
      all_goals exact aJ rfl rfl rfl
end
section
open Go.RowKit Go.Vcg
def aG5 : List Int := [1, 2, 8, 16, 32]
def fC (h : Int → Bool) (k : Nat) : Nat := ((aG5.take k).filter h).length
theorem YT (h : Int → Bool) : fC h 0 = 0 := rfl
theorem qY {h : Int → Bool} {k : Nat} {m : Int} (hk : aG5[k]? = some m) : fC h (k + 1) = fC h k + (if h m = true then 1 else 0) := by
 unfold fC
 rw [bQ, hk, List.filter_append, aK]
 cases hm : h m <;> simp [List.filter_cons, hm]
theorem BM (h : Int → Bool) (k : Nat) : fC h k ≤ 5 := by
 unfold fC
 have h1 := List.length_filter_le h (aG5.take k)
 have h2 : (aG5.take k).length ≤ 5 := by rw [cE]; exact mQ _ _
 omega
noncomputable def wK (t : T) : Bool :=
 if t.n < 0 ∨ 255 < t.n ∨ t.s ≠ ⟨#[]⟩ ∧ jU t.s = false then false
 else if 1 < fC (fT t) 5 ∨ fT t 4 = true ∧ fT t 50 = true ∨ fT t 128 = true ∧ fT t 2 = false then false
 else if fT t 1 = true then decide (t.s ≠ ⟨#[]⟩)
 else decide (fC (fT t) 5 = 0) || decide (t.s = ⟨#[]⟩)
attribute [local irreducible] jU fT fC G GC GQ GA eN Calls IntKind.wrap Int.decLt Int.decLe
theorem aC9 (t : T) (u : Value) (w : World) (μ : Mem) (hμ : MOk μ w) (hk : KR μ t.kids u) (hs : t.size ≤ 100000) (g : t.s.size ≤ 65536) :
 aV 115 #[.agg (aY t u).toArray] w (.bool (wK t)) := by
 have ho := hk.one
 refine aE (args := [.agg (aY t u).toArray]) Tryz.func115 rfl Tryz.ntmps115 (by simp) hμ ?_
 have f := fun (w : World) (μc : Mem) (hw : MOk μc w) => DZ t.s g w μc hw
 have d := fun (m : Int) (w : World) (μc : Mem) (hw : MOk μc w) (hle : MLe μ μc) => pC m t u w μc hw (hk.mono hle) hs
 by_cases h1 : t.n < 0 ∨ 255 < t.n ∨ t.s ≠ ⟨#[]⟩ ∧ jU t.s = false
 ·have hg : wK t = false := by unfold wK; rw [if_pos h1]
  rw [hg]
  try repeat' (first | ((with_reducible show GC _ _ (Code.seq (Code.region 3 _ _) _) _ _ _ _); (apply dF)) | refine KO ?_ | refine K2 146 (fun w μc hw c => f w μc hw) ?_ | refine KZ ?_ | refine NB fun b => ?_ | (refine KB ?_ ?_ <;> intro h))
  all_goals first | exact aJ rfl rfl rfl | (exfalso; simp_all; try omega)
 ·try repeat' (first | ((with_reducible show GC _ _ (Code.seq (Code.region 3 _ _) _) _ _ _ _); (apply dF)) | refine KO ?_ | refine K2 146 (fun w μc hw c => f w μc hw) ?_ | refine KZ ?_ | refine NB fun b => ?_ | (refine KB ?_ ?_ <;> intro h))
  rotate_left
  ·exfalso
   simp_all
  rotate_left
  all_goals
   refine gcs ?_
   rename Nat => ba
   have hg : wK t = (if 1 < fC (fT t) 5 ∨ fT t 4 = true ∧ fT t 50 = true ∨ fT t 128 = true ∧ fT t 2 = false then false else if fT t 1 = true then decide (t.s ≠ ⟨#[]⟩) else decide (fC (fT t) 5 = 0) || decide (t.s = ⟨#[]⟩)) := by unfold wK; rw [if_neg h1]
   have l := BM (fT t) 5
   try repeat' (first | refine KZ ?_ | refine NB fun b => ?_)
   refine bW (ι := Nat) (fun i => i ≤ 5) (fun i => 5 - i) (fun _ => μ) (fun i => [(27, .int .i64 i), (26, .int .i64 5), (25, .slice (some ⟨b, 0, none⟩) 5 5), (3, .int .i64 (fC (fT t) i)), (1, .pointer (some ⟨ba, 0, none⟩))]) (fun _ => [.inl ⟨b, 3, 5, idx 0 [.int .i64 1, .int .i64 2, .int .i64 8, .int .i64 16, .int .i64 32]⟩, .inl ⟨ba, 24, 6, idx 0 (aY t u)⟩]) 0 (by decide) (fun a w hs => by rw [YT]; exact J5 hs) ?_
   intro i hi
   have j := BM (fT t) i
   rcases (by omega : i = 5 ∨ i = 0 ∨ i = 1 ∨ i = 2 ∨ i = 3 ∨ i = 4) with rfl | rfl | rfl | rfl | rfl | rfl
   ·rw [hg]
    clear hg h1
    try repeat' (first | refine KO ?_ | refine K2 147 (d _) ?_ | refine KZ ?_ | (refine KB ?_ ?_ <;> intro h))
    all_goals clear f d hk ho
    all_goals first | (refine aJ rfl rfl ?_; simp_all; done) | (refine aJ rfl rfl ?_; simp_all; omega)
   ·have hn : fC (fT t) 1 = fC (fT t) 0 + (if fT t 1 = true then 1 else 0) := qY (k := 0) rfl
    cases e : fT t 1
    ·rw [e, if_neg (by simp), cB] at hn
     try repeat' (first | refine KO ?_ | refine K2 147 (fun w μc hw c => e ▸ d 1 w μc hw c) ?_ | refine KZ ?_)
     all_goals (rw [← hn]; exact J2 1 (by decide) (by decide))
    ·rw [e, if_pos rfl] at hn
     try repeat' (first | refine KO ?_ | refine K2 147 (fun w μc hw c => e ▸ d 1 w μc hw c) ?_ | refine KZ ?_)
     all_goals (rw [show ((fC (fT t) 0 : Nat) : Int) + 1 = ((fC (fT t) 1 : Nat) : Int) from by omega]; exact J2 1 (by decide) (by decide))
   ·have hn : fC (fT t) 2 = fC (fT t) 1 + (if fT t 2 = true then 1 else 0) := qY (k := 1) rfl
    cases e : fT t 2
    ·rw [e, if_neg (by simp), cB] at hn
     try repeat' (first | refine KO ?_ | refine K2 147 (fun w μc hw c => e ▸ d 2 w μc hw c) ?_ | refine KZ ?_)
     all_goals (rw [← hn]; exact J2 2 (by decide) (by decide))
    ·rw [e, if_pos rfl] at hn
     try repeat' (first | refine KO ?_ | refine K2 147 (fun w μc hw c => e ▸ d 2 w μc hw c) ?_ | refine KZ ?_)
     all_goals (rw [show ((fC (fT t) 1 : Nat) : Int) + 1 = ((fC (fT t) 2 : Nat) : Int) from by omega]; exact J2 2 (by decide) (by decide))
   ·have hn : fC (fT t) 3 = fC (fT t) 2 + (if fT t 8 = true then 1 else 0) := qY (k := 2) rfl
    cases e : fT t 8
    ·rw [e, if_neg (by simp), cB] at hn
     try repeat' (first | refine KO ?_ | refine K2 147 (fun w μc hw c => e ▸ d 8 w μc hw c) ?_ | refine KZ ?_)
     all_goals (rw [← hn]; exact J2 3 (by decide) (by decide))
    ·rw [e, if_pos rfl] at hn
     try repeat' (first | refine KO ?_ | refine K2 147 (fun w μc hw c => e ▸ d 8 w μc hw c) ?_ | refine KZ ?_)
     all_goals (rw [show ((fC (fT t) 2 : Nat) : Int) + 1 = ((fC (fT t) 3 : Nat) : Int) from by omega]; exact J2 3 (by decide) (by decide))
   ·have hn : fC (fT t) 4 = fC (fT t) 3 + (if fT t 16 = true then 1 else 0) := qY (k := 3) rfl
    cases e : fT t 16
    ·rw [e, if_neg (by simp), cB] at hn
     try repeat' (first | refine KO ?_ | refine K2 147 (fun w μc hw c => e ▸ d 16 w μc hw c) ?_ | refine KZ ?_)
     all_goals (rw [← hn]; exact J2 4 (by decide) (by decide))
    ·rw [e, if_pos rfl] at hn
     try repeat' (first | refine KO ?_ | refine K2 147 (fun w μc hw c => e ▸ d 16 w μc hw c) ?_ | refine KZ ?_)
     all_goals (rw [show ((fC (fT t) 3 : Nat) : Int) + 1 = ((fC (fT t) 4 : Nat) : Int) from by omega]; exact J2 4 (by decide) (by decide))
   ·have hn : fC (fT t) 5 = fC (fT t) 4 + (if fT t 32 = true then 1 else 0) := qY (k := 4) rfl
    cases e : fT t 32
    ·rw [e, if_neg (by simp), cB] at hn
     try repeat' (first | refine KO ?_ | refine K2 147 (fun w μc hw c => e ▸ d 32 w μc hw c) ?_ | refine KZ ?_)
     all_goals (rw [← hn]; exact J2 5 (by decide) (by decide))
    ·rw [e, if_pos rfl] at hn
     try repeat' (first | refine KO ?_ | refine K2 147 (fun w μc hw c => e ▸ d 32 w μc hw c) ?_ | refine KZ ?_)
     all_goals (rw [show ((fC (fT t) 4 : Nat) : Int) + 1 = ((fC (fT t) 5 : Nat) : Int) from by omega]; exact J2 5 (by decide) (by decide))
end
section
open Go.RowKit Go.Vcg
noncomputable def fnT (t : T) : Bool :=
 if t.n < 0 ∨ 255 < t.n ∨ t.s ≠ ⟨#[]⟩ ∧ jU t.s = false then false
 else (if 1 < fC (fK t) 5 ∨ fK t 4 = true ∧ (fK t 2 = true ∨ fK t 16 = true ∨ fK t 32 = true) ∨ fK t 128 = true ∧ fK t 2 = false then false else if fK t 1 = true then decide (t.s ≠ ⟨#[]⟩) else decide (fC (fK t) 5 = 0) || decide (t.s = ⟨#[]⟩))
attribute [local irreducible] jU fK fC G GC GQ GA eN Calls IntKind.wrap Int.decLt Int.decLe
theorem aJn (t : T) (u : Value) (w : World) (μ : Mem) (hμ : MOk μ w) (hk : KR μ t.kids u) (hs : t.size ≤ 100000) (g : t.s.size ≤ 65536) :
 aV 66 #[.agg (aY t u).toArray] w (.bool (fnT t)) := by
 have ho := hk.one
 refine aE (args := [.agg (aY t u).toArray]) Tryz.func66 rfl Tryz.ntmps66 (by simp) hμ ?_
 have f := fun (w : World) (μc : Mem) (hw : MOk μc w) => AQ t.s g w μc hw
 have d := fun (m : Int) (hm : m ≠ 0) (w : World) (μc : Mem) (hw : MOk μc w) (hle : MLe μ μc) => sI m hm t u w μc hw (hk.mono hle)
 by_cases h1 : t.n < 0 ∨ 255 < t.n ∨ t.s ≠ ⟨#[]⟩ ∧ jU t.s = false
 ·have hg : fnT t = false := by unfold fnT; rw [if_pos h1]
  rw [hg]
  try repeat' (first | ((with_reducible show GC _ _ (Code.seq (Code.region 3 _ _) _) _ _ _ _); (apply dF)) | refine KO ?_ | refine K2 89 (fun w μc hw c => f w μc hw) ?_ | refine KZ ?_ | refine NB fun b => ?_ | (refine KB ?_ ?_ <;> intro h))
  all_goals first | exact aJ rfl rfl rfl | (exfalso; simp_all; try omega)
 ·try repeat' (first | ((with_reducible show GC _ _ (Code.seq (Code.region 3 _ _) _) _ _ _ _); (apply dF)) | refine KO ?_ | refine K2 89 (fun w μc hw c => f w μc hw) ?_ | refine KZ ?_ | refine NB fun b => ?_ | (refine KB ?_ ?_ <;> intro h))
  rotate_left
  ·exfalso
   simp_all
  rotate_left
  all_goals
   refine gcs ?_
   rename Nat => ba
   have hg : fnT t = (if 1 < fC (fK t) 5 ∨ fK t 4 = true ∧ (fK t 2 = true ∨ fK t 16 = true ∨ fK t 32 = true) ∨ fK t 128 = true ∧ fK t 2 = false then false else if fK t 1 = true then decide (t.s ≠ ⟨#[]⟩) else decide (fC (fK t) 5 = 0) || decide (t.s = ⟨#[]⟩)) := by unfold fnT; rw [if_neg h1]
   have l := BM (fK t) 5
   try repeat' (first | refine KZ ?_ | refine NB fun b => ?_)
   refine bW (ι := Nat) (fun i => i ≤ 5) (fun i => 5 - i) (fun _ => μ) (fun i => [(5, .int .i64 i), (4, .slice (some ⟨b, 0, none⟩) 5 5), (3, .int .i64 (fC (fK t) i)), (1, .pointer (some ⟨ba, 0, none⟩))]) (fun _ => [.inl ⟨b, 3, 5, idx 0 [.int .i64 1, .int .i64 2, .int .i64 8, .int .i64 16, .int .i64 32]⟩, .inl ⟨ba, 24, 6, idx 0 (aY t u)⟩]) 0 (by decide) (fun a w hs => by rw [YT]; exact J5 hs) ?_
   intro i hi
   have j := BM (fK t) i
   rcases (by omega : i = 5 ∨ i = 0 ∨ i = 1 ∨ i = 2 ∨ i = 3 ∨ i = 4) with rfl | rfl | rfl | rfl | rfl | rfl
   ·rw [hg]
    clear hg h1
    try repeat' (first | refine KO ?_ | ((with_reducible apply F1 90); exact rfl; exact EN; exact fun w μc hw c => d _ (by decide) w μc hw c.le) | refine KZ ?_ | (refine KB ?_ ?_ <;> intro h))
    all_goals clear f d hk ho
    all_goals first | (refine aJ rfl rfl ?_; simp_all; done) | (refine aJ rfl rfl ?_; simp_all; omega)
   ·have hn : fC (fK t) 1 = fC (fK t) 0 + (if fK t 1 = true then 1 else 0) := qY (k := 0) rfl
    cases e : fK t 1
    ·rw [e, if_neg (by simp), cB] at hn
     try repeat' (refine KZ ?_)
     refine aT 6 _ (by kernel_rfl) rfl (aC (aC aQ)) ?_
     all_goals (refine DD 0 ?_; refine DD 1 ?_; refine DD 2 ?_; refine D2 3 rfl (by exact U1 0) ?_; refine DD 4 ?_; refine D3 5 ?_; refine D5 ?_; refine K2 90 (fun w μc hw c => e ▸ d 1 (by decide) w μc hw c) ?_; refine D9 ?_; refine D8 ?_)
     try repeat' (refine KZ ?_)
     all_goals (rw [← hn]; exact J2 1 (by decide) (by decide))
    ·rw [e, if_pos rfl] at hn
     try repeat' (refine KZ ?_)
     refine aT 6 _ (by kernel_rfl) rfl (aC (aC aQ)) ?_
     all_goals (refine DD 0 ?_; refine DD 1 ?_; refine DD 2 ?_; refine D2 3 rfl (by exact U1 0) ?_; refine DD 4 ?_; refine D3 5 ?_; refine D5 ?_; refine K2 90 (fun w μc hw c => e ▸ d 1 (by decide) w μc hw c) ?_; refine D9 ?_; refine D8 ?_)
     try repeat' (refine KZ ?_)
     all_goals (rw [show ((fC (fK t) 0 : Nat) : Int) + 1 = ((fC (fK t) 1 : Nat) : Int) from by omega]; exact J2 1 (by decide) (by decide))
   ·have hn : fC (fK t) 2 = fC (fK t) 1 + (if fK t 2 = true then 1 else 0) := qY (k := 1) rfl
    cases e : fK t 2
    ·rw [e, if_neg (by simp), cB] at hn
     try repeat' (refine KZ ?_)
     refine aT 6 _ (by kernel_rfl) rfl (aC (aC aQ)) ?_
     all_goals (refine DD 0 ?_; refine DD 1 ?_; refine DD 2 ?_; refine D2 3 rfl (by exact U1 1) ?_; refine DD 4 ?_; refine D3 5 ?_; refine D5 ?_; refine K2 90 (fun w μc hw c => e ▸ d 2 (by decide) w μc hw c) ?_; refine D9 ?_; refine D8 ?_)
     try repeat' (refine KZ ?_)
     all_goals (rw [← hn]; exact J2 2 (by decide) (by decide))
    ·rw [e, if_pos rfl] at hn
     try repeat' (refine KZ ?_)
     refine aT 6 _ (by kernel_rfl) rfl (aC (aC aQ)) ?_
     all_goals (refine DD 0 ?_; refine DD 1 ?_; refine DD 2 ?_; refine D2 3 rfl (by exact U1 1) ?_; refine DD 4 ?_; refine D3 5 ?_; refine D5 ?_; refine K2 90 (fun w μc hw c => e ▸ d 2 (by decide) w μc hw c) ?_; refine D9 ?_; refine D8 ?_)
     try repeat' (refine KZ ?_)
     all_goals (rw [show ((fC (fK t) 1 : Nat) : Int) + 1 = ((fC (fK t) 2 : Nat) : Int) from by omega]; exact J2 2 (by decide) (by decide))
   ·have hn : fC (fK t) 3 = fC (fK t) 2 + (if fK t 8 = true then 1 else 0) := qY (k := 2) rfl
    cases e : fK t 8
    ·rw [e, if_neg (by simp), cB] at hn
     try repeat' (refine KZ ?_)
     refine aT 6 _ (by kernel_rfl) rfl (aC (aC aQ)) ?_
     all_goals (refine DD 0 ?_; refine DD 1 ?_; refine DD 2 ?_; refine D2 3 rfl (by exact U1 2) ?_; refine DD 4 ?_; refine D3 5 ?_; refine D5 ?_; refine K2 90 (fun w μc hw c => e ▸ d 8 (by decide) w μc hw c) ?_; refine D9 ?_; refine D8 ?_)
     try repeat' (refine KZ ?_)
     all_goals (rw [← hn]; exact J2 3 (by decide) (by decide))
    ·rw [e, if_pos rfl] at hn
     try repeat' (refine KZ ?_)
     refine aT 6 _ (by kernel_rfl) rfl (aC (aC aQ)) ?_
     all_goals (refine DD 0 ?_; refine DD 1 ?_; refine DD 2 ?_; refine D2 3 rfl (by exact U1 2) ?_; refine DD 4 ?_; refine D3 5 ?_; refine D5 ?_; refine K2 90 (fun w μc hw c => e ▸ d 8 (by decide) w μc hw c) ?_; refine D9 ?_; refine D8 ?_)
     try repeat' (refine KZ ?_)
     all_goals (rw [show ((fC (fK t) 2 : Nat) : Int) + 1 = ((fC (fK t) 3 : Nat) : Int) from by omega]; exact J2 3 (by decide) (by decide))
   ·have hn : fC (fK t) 4 = fC (fK t) 3 + (if fK t 16 = true then 1 else 0) := qY (k := 3) rfl
    cases e : fK t 16
    ·rw [e, if_neg (by simp), cB] at hn
     try repeat' (refine KZ ?_)
     refine aT 6 _ (by kernel_rfl) rfl (aC (aC aQ)) ?_
     all_goals (refine DD 0 ?_; refine DD 1 ?_; refine DD 2 ?_; refine D2 3 rfl (by exact U1 3) ?_; refine DD 4 ?_; refine D3 5 ?_; refine D5 ?_; refine K2 90 (fun w μc hw c => e ▸ d 16 (by decide) w μc hw c) ?_; refine D9 ?_; refine D8 ?_)
     try repeat' (refine KZ ?_)
     all_goals (rw [← hn]; exact J2 4 (by decide) (by decide))
    ·rw [e, if_pos rfl] at hn
     try repeat' (refine KZ ?_)
     refine aT 6 _ (by kernel_rfl) rfl (aC (aC aQ)) ?_
     all_goals (refine DD 0 ?_; refine DD 1 ?_; refine DD 2 ?_; refine D2 3 rfl (by exact U1 3) ?_; refine DD 4 ?_; refine D3 5 ?_; refine D5 ?_; refine K2 90 (fun w μc hw c => e ▸ d 16 (by decide) w μc hw c) ?_; refine D9 ?_; refine D8 ?_)
     try repeat' (refine KZ ?_)
     all_goals (rw [show ((fC (fK t) 3 : Nat) : Int) + 1 = ((fC (fK t) 4 : Nat) : Int) from by omega]; exact J2 4 (by decide) (by decide))
   ·have hn : fC (fK t) 5 = fC (fK t) 4 + (if fK t 32 = true then 1 else 0) := qY (k := 4) rfl
    cases e : fK t 32
    ·rw [e, if_neg (by simp), cB] at hn
     try repeat' (refine KZ ?_)
     refine aT 6 _ (by kernel_rfl) rfl (aC (aC aQ)) ?_
     all_goals (refine DD 0 ?_; refine DD 1 ?_; refine DD 2 ?_; refine D2 3 rfl (by exact U1 4) ?_; refine DD 4 ?_; refine D3 5 ?_; refine D5 ?_; refine K2 90 (fun w μc hw c => e ▸ d 32 (by decide) w μc hw c) ?_; refine D9 ?_; refine D8 ?_)
     try repeat' (refine KZ ?_)
     all_goals (rw [← hn]; exact J2 5 (by decide) (by decide))
    ·rw [e, if_pos rfl] at hn
     try repeat' (refine KZ ?_)
     refine aT 6 _ (by kernel_rfl) rfl (aC (aC aQ)) ?_
     all_goals (refine DD 0 ?_; refine DD 1 ?_; refine DD 2 ?_; refine D2 3 rfl (by exact U1 4) ?_; refine DD 4 ?_; refine D3 5 ?_; refine D5 ?_; refine K2 90 (fun w μc hw c => e ▸ d 32 (by decide) w μc hw c) ?_; refine D9 ?_; refine D8 ?_)
     try repeat' (refine KZ ?_)
     all_goals (rw [show ((fC (fK t) 4 : Nat) : Int) + 1 = ((fC (fK t) 5 : Nat) : Int) from by omega]; exact J2 5 (by decide) (by decide))
end
section
open Go.RowKit Go.Vcg
theorem aOi (s : ByteArray) : oQ s yI = (decide (s = ⟨#[43, 43]⟩) || decide (s = ⟨#[45, 45]⟩)) := by
 unfold oQ tE yI
 simp only [aO, gZ, jK, List.any_nil, Bool.or_false, id_eq]
theorem aOh (s : ByteArray) : oQ s yH = (decide (s = ⟨#[38, 38]⟩) || (decide (s = ⟨#[124, 124]⟩) || decide (s = ⟨#[63, 63]⟩))) := by
 unfold oQ tE yH
 simp only [aO, gZ, jK, List.any_nil, Bool.or_false, id_eq]
attribute [local irreducible] jU oQ G GC GQ GA eN Calls IntKind.wrap Int.decLt Int.decLe
theorem aLx (t : T) (u : Value) (w : World) (μ : Mem) (hμ : MOk μ w) (hk : KR μ t.kids u) (c : t.op = 42) :
 aV 67 #[.agg (aY t u).toArray] w (.bool (oQ t.s BL)) := by
 have ho := hk.one
 refine aE (args := [.agg (aY t u).toArray]) Tryz.func67 rfl Tryz.ntmps67 (by simp) hμ ?_
 try repeat' (first | refine KO ?_ | ((with_reducible apply F1 91); exact rfl; exact EN; exact fun w μc hw a => DQ t.s BL _ _ _ w μc hw (cI a.hd rfl (by simp) (by repeat first | exact bZ | refine bH rfl ?_)) (by decide)) | refine KZ ?_ | refine NB fun b => ?_)
 all_goals exact aJ rfl rfl rfl
theorem aLv (t : T) (u : Value) (w : World) (μ : Mem) (hμ : MOk μ w) (hk : KR μ t.kids u) (c : t.op = 44) :
 aV 67 #[.agg (aY t u).toArray] w (.bool (oQ t.s BK)) := by
 have ho := hk.one
 refine aE (args := [.agg (aY t u).toArray]) Tryz.func67 rfl Tryz.ntmps67 (by simp) hμ ?_
 try repeat' (first | refine KO ?_ | ((with_reducible apply F1 91); exact rfl; exact EN; exact fun w μc hw a => DQ t.s BK _ _ _ w μc hw (cI a.hd rfl (by simp) (by repeat first | exact bZ | refine bH rfl ?_)) (by decide)) | refine KZ ?_ | refine NB fun b => ?_)
 all_goals exact aJ rfl rfl rfl
theorem aLt (t : T) (u : Value) (w : World) (μ : Mem) (hμ : MOk μ w) (hk : KR μ t.kids u) (c : t.op = 46) :
 aV 67 #[.agg (aY t u).toArray] w (.bool (oQ t.s BJ)) := by
 have ho := hk.one
 refine aE (args := [.agg (aY t u).toArray]) Tryz.func67 rfl Tryz.ntmps67 (by simp) hμ ?_
 try repeat' (first | refine KO ?_ | ((with_reducible apply F1 91); exact rfl; exact EN; exact fun w μc hw a => DQ t.s BJ _ _ _ w μc hw (cI a.hd rfl (by simp) (by repeat first | exact bZ | refine bH rfl ?_)) (by decide)) | refine KZ ?_ | refine NB fun b => ?_)
 all_goals exact aJ rfl rfl rfl
theorem aLw (t : T) (u : Value) (w : World) (μ : Mem) (hμ : MOk μ w) (hk : KR μ t.kids u) (a : t.op = 43) :
 aV 67 #[.agg (aY t u).toArray] w (.bool (oQ t.s yI)) := by
 have ho := hk.one
 refine aE (args := [.agg (aY t u).toArray]) Tryz.func67 rfl Tryz.ntmps67 (by simp) hμ ?_
 rw [aOi]
 try repeat' (first | refine KZ ?_ | refine NB fun b => ?_ | (refine KB ?_ ?_ <;> intro c))
 all_goals (refine aJ rfl rfl ?_; simp_all; done)
theorem aLu (t : T) (u : Value) (w : World) (μ : Mem) (hμ : MOk μ w) (hk : KR μ t.kids u) (a : t.op = 45) :
 aV 67 #[.agg (aY t u).toArray] w (.bool (oQ t.s yH)) := by
 have ho := hk.one
 refine aE (args := [.agg (aY t u).toArray]) Tryz.func67 rfl Tryz.ntmps67 (by simp) hμ ?_
 rw [aOh]
 try repeat' (first | refine KZ ?_ | refine NB fun b => ?_ | (refine KB ?_ ?_ <;> intro c))
 all_goals (refine aJ rfl rfl ?_; simp_all; done)
theorem VZ (t : T) (u : Value) (w : World) (μ : Mem) (hμ : MOk μ w) (hk : KR μ t.kids u) (g : t.s.size ≤ 65536) :
 aV 67 #[.agg (aY t u).toArray] w (.bool (mT t)) := by
 by_cases f : t.op = 42
 ·simpa [mT, f] using aLx t u w μ hμ hk f
 by_cases e : t.op = 43
 ·simpa [mT, e] using aLw t u w μ hμ hk e
 by_cases d : t.op = 44
 ·simpa [mT, d] using aLv t u w μ hμ hk d
 by_cases c : t.op = 45
 ·simpa [mT, c] using aLu t u w μ hμ hk c
 by_cases a : t.op = 46
 ·simpa [mT, a] using aLt t u w μ hμ hk a
 have ho := hk.one
 refine aE (args := [.agg (aY t u).toArray]) Tryz.func67 rfl Tryz.ntmps67 (by simp) hμ ?_
 try repeat' (first | refine KO ?_ | refine K2 89 (fun w μc hw h => AQ t.s g w μc hw) ?_ | refine KZ ?_ | refine NB fun b => ?_ | (refine KB ?_ ?_ <;> intro i))
 all_goals (refine aJ rfl rfl ?_; simp_all [mT])
end
section
open Go.RowKit Go.Vcg
def uX (t : T) : Bool := decide (t.op = 62) || (decide (t.op = 39) && decide (t.n ≠ 3) && decide (t.n ≠ 4))
def zO (t : T) : Bool := decide (t.at' < 0) || (decide (t.m ≠ 0) && (decide (t.m ≠ 1) || !uX t))
noncomputable def lZ (t : T) : Bool :=
 if zO t = true then false else if t.op = 4 then wK t else decide (0 ≤ t.n) && decide (t.n ≤ kC t.op) && mT t
attribute [local irreducible] wK mT kC G GC GQ GA eN Calls IntKind.wrap Int.decLt Int.decLe
theorem PK (t : T) (u : Value) (w : World) (μ : Mem) (hμ : MOk μ w) (hk : KR μ t.kids u) (hs : t.size ≤ 100000) (c : t.s.size ≤ 65536) (e : qX μ) :
 aV 77 #[.agg (aY t u).toArray] w (.bool (lZ t)) := by
 have ho := hk.one
 refine aE (args := [.agg (aY t u).toArray]) Tryz.func77 rfl Tryz.ntmps77 (by simp) hμ ?_
 cases hb : zO t
 ·by_cases h4 : t.op = 4
  ·have hg : lZ t = wK t := by unfold lZ; rw [if_neg (by simp [hb]), if_pos h4]
   rw [hg]
   clear hg
   try repeat' (first | refine KO ?_ | refine K2 115 (fun w μc hw a => aC9 t u w μc hw (hk.mono a) hs c) ?_ | refine KZ ?_ | refine NB fun b => ?_ | (refine KB ?_ ?_ <;> intro d))
   all_goals first | exact aJ rfl rfl rfl | (exfalso; simp_all [zO, uX]; done)
  ·have hg : lZ t = (decide (0 ≤ t.n) && decide (t.n ≤ kC t.op) && mT t) := by unfold lZ; rw [if_neg (by simp [hb]), if_neg h4]
   rw [hg]
   clear hg
   try repeat' (first | refine KZ ?_ | refine NB fun b => ?_ | (refine KB ?_ ?_ <;> intro d))
   all_goals first | (exfalso; clear hk e hμ; simp_all [zO, uX]; done) | skip
   all_goals
    refine aT 16 _ (by kernel_rfl) rfl (aC aQ) ?_
    all_goals (refine DD 0 ?_; refine DD 1 ?_; refine DD 2 ?_; refine DD 3 ?_)
    all_goals (try (refine D7 4 ?_; (repeat' (first | refine KO ?_ | (refine KB ?_ ?_ <;> intro d)))))
    all_goals (refine DD 4 ?_; refine DD 5 ?_; refine DD 6 ?_; refine DD 7 ?_)
    all_goals (first | (refine D3 8 ?_; refine D5 ?_; refine K2 116 (fun w μc hw a => aBv t.op w μc hw) ?_; refine D9 ?_) | refine D3 8 (D6 ?_))
    all_goals (refine DD 9 ?_; refine DD 10 ?_; refine DD 11 ?_)
    all_goals (try (refine D7 12 ?_; (repeat' (refine KB ?_ ?_ <;> intro d))))
    all_goals refine DD 12 ?_
    all_goals (first | (refine D3 13 ?_; refine D5 ?_; refine K2 117 (fun w μc hw a => aAy t u w μc hw (hk.mono a) c (e.mono a)) ?_; refine D9 ?_) | refine D3 13 (D6 ?_))
    all_goals (refine DD 14 ?_; refine DD 15 ?_; refine D8 ?_)
    try repeat' (refine KZ ?_)
    all_goals (refine aJ rfl rfl ?_; simp_all; try (intros; omega))
 ·have hg : lZ t = false := by unfold lZ; rw [if_pos hb]
  rw [hg]
  clear hg
  try repeat' (first | refine KZ ?_ | refine NB fun b => ?_ | (refine KB ?_ ?_ <;> intro d))
  all_goals first | exact aJ rfl rfl rfl | (exfalso; clear hk e hμ; simp_all [zO, uX]; done)
end
section
open Go.RowKit Go.Vcg
noncomputable def kB (t : T) : Bool :=
 if zO t = true then false else if t.op = 4 then fnT t else decide (0 ≤ t.n) && decide (t.n ≤ kC t.op) && mT t
attribute [local irreducible] fnT mT kC G GC GQ GA eN Calls IntKind.wrap Int.decLt Int.decLe
theorem OM (t : T) (u : Value) (w : World) (μ : Mem) (hμ : MOk μ w) (hk : KR μ t.kids u) (hs : t.size ≤ 100000) (g : t.s.size ≤ 65536) :
 aV 42 #[.agg (aY t u).toArray] w (.bool (kB t)) := by
 have ho := hk.one
 refine aE (args := [.agg (aY t u).toArray]) Tryz.func42 rfl Tryz.ntmps42 (by simp) hμ ?_
 have c : zO t = (decide (t.at' < 0) || (decide (t.m ≠ 0) && (decide (t.m ≠ 1) || !uX t))) := rfl
 try repeat' (first | ((with_reducible show GC _ _ (Code.seq (Code.region 1 _ _) _) _ _ _ _); (apply dF)) | refine KZ ?_ | refine NB fun b => ?_)
 refine gcs (iB (ι := Unit) (fun _ => True) (fun _ => μ) (fun _ => [(3, .bool (uX t)), (1, .pointer (some ⟨b, 0, none⟩))]) (fun _ => [.inl ⟨b, 24, 6, idx 0 (aY t u)⟩]) ?_ ?_)
 ·by_cases d : t.op = 62
  ·have hc : uX t = true := by unfold uX; rw [decide_eq_true d, Bool.true_or]
   rw [hc]
   try repeat' (refine KZ ?_)
   all_goals first | skip
   all_goals try rw [decide_eq_true d]
   all_goals exact J1 () trivial
  ·by_cases e : t.op = 39 ∧ t.n ≠ 3 ∧ t.n ≠ 4
   ·have hc : uX t = true := by unfold uX; rw [decide_eq_true e.1, decide_eq_true e.2.1, decide_eq_true e.2.2]; simp
    rw [hc]
    try repeat' (refine KZ ?_)
    all_goals exact J1 () trivial
   ·have hc : uX t = false := by
     unfold uX
     rw [decide_eq_false d, mA, Bool.eq_false_iff]
     intro h
     simp only [aS, decide_eq_true_eq] at h
     exact e ⟨h.1.1, h.1.2, h.2⟩
    rw [hc]
    try repeat' (first | refine KZ ?_ | (refine KB ?_ ?_ <;> intro i))
    all_goals first | skip
    all_goals try rw [decide_eq_false d]
    all_goals exact J1 () trivial
 ·intro _ _
  generalize uX t = m at c
  cases hb : zO t
  ·rw [hb] at c
   by_cases h4 : t.op = 4
   ·have hg : kB t = fnT t := by unfold kB; rw [if_neg (by simp [hb]), if_pos h4]
    rw [hg]
    clear hg
    cases m
    all_goals
     simp at c
     try repeat' (first | refine KO ?_ | refine K2 66 (fun w μc hw f => aJn t u w μc hw (hk.mono f) hs g) ?_ | refine KZ ?_ | (refine KB ?_ ?_ <;> intro i))
     all_goals exact aJ rfl rfl rfl
   ·have hg : kB t = (decide (0 ≤ t.n) && decide (t.n ≤ kC t.op) && mT t) := by unfold kB; rw [if_neg (by simp [hb]), if_neg h4]
    rw [hg]
    clear hg
    cases m
    all_goals
     simp at c
     try repeat' (first | ((with_reducible show GC _ _ (Code.seq (Code.region 4 _ _) _) _ _ _ _); (apply dF)) | refine KZ ?_ | (refine KB ?_ ?_ <;> intro i))
     all_goals first | skip
    all_goals
     refine gcs ?_
     try repeat' (first | ((with_reducible show GC _ _ (Code.seq (Code.seq (Code.region 5 _ _) _) _) _ _ _ _); (apply dF)) | refine KZ ?_)
     refine gcs (iB (ι := Unit) (fun _ => True) (fun _ => μ) (fun _ => [(4, .int .i64 (kC t.op)), (1, .pointer (some ⟨b, 0, none⟩))]) (fun _ => [.inl ⟨b, 24, 6, idx 0 (aY t u)⟩]) ?_ ?_)
     rotate_left
     ·intro _ _
      try repeat' (first | refine KO ?_ | refine K2 67 (fun w μc hw f => VZ t u w μc hw (hk.mono f) g) ?_ | refine KZ ?_ | (refine KB ?_ ?_ <;> intro i))
      all_goals (clear hk hμ ho; refine aJ rfl rfl ?_; simp_all; try (intros; omega))
     by_cases l : t.op = 1 ∨ t.op = 22 ∨ t.op = 32 ∨ t.op = 43 ∨ t.op = 49 ∨ t.op = 51 ∨ t.op = 52 ∨ t.op = 54
     ·have hm : kC t.op = 1 := by unfold kC; (repeat rw [if_pos (by omega)])
      rw [hm]
      try repeat' (first | refine KZ ?_ | (refine KB ?_ ?_ <;> intro i))
      all_goals exact J1 () trivial
     by_cases k : t.op = 2
     ·have hm : kC t.op = 2 := by unfold kC; (repeat first | rw [if_pos (by omega)] | rw [if_neg (by omega)])
      rw [hm]
      try repeat' (refine KZ ?_)
      all_goals exact J1 () trivial
     by_cases a : t.op = 30
     ·have hm : kC t.op = 9007199254740992 := by unfold kC; (repeat first | rw [if_pos (by omega)] | rw [if_neg (by omega)])
      rw [hm]
      try repeat' (refine KZ ?_)
      all_goals exact J1 () trivial
     by_cases j : t.op = 39
     ·have hm : kC t.op = 5 := by unfold kC; (repeat first | rw [if_pos (by omega)] | rw [if_neg (by omega)])
      rw [hm]
      try repeat' (refine KZ ?_)
      all_goals exact J1 () trivial
     have hm : kC t.op = 0 := by unfold kC; (repeat rw [if_neg (by omega)])
     rw [hm]
     try repeat' (refine KZ ?_)
     all_goals exact J1 () trivial
  ·have hg : kB t = false := by unfold kB; rw [if_pos hb]
   rw [hg]
   clear hg
   rw [hb] at c
   cases m
   all_goals
    simp at c
    try repeat' (first | refine KZ ?_ | (refine KB ?_ ?_ <;> intro i))
    all_goals exact aJ rfl rfl rfl
end
section
open Go.RowKit Go.Vcg
def oJ (t : T) : ByteArray := if t.m = 1 then ⟨#[69]⟩ else ⟨#[107]⟩
def rW (t : T) : ByteArray :=
 if t.n = 0 then oJ t ++ ⟨#[69]⟩ else if t.n = 1 then oJ t ++ ⟨#[103]⟩ else if t.n = 2 then oJ t ++ ⟨#[115]⟩ else if t.n = 3 then ⟨#[119]⟩ else if t.n = 4 then ⟨#[69]⟩ else if t.n = 5 then oJ t ++ ⟨#[109]⟩ else ⟨#[33]⟩
def jD (t : T) : ByteArray :=
 if t.op = 21 then ⟨#[69, 75, 42]⟩
 else if t.op = 22 then (if t.n = 1 then ⟨#[83, 42]⟩ else ⟨#[69, 83, 42]⟩)
 else if t.op = 23 then ⟨#[83]⟩
 else if t.op = 37 then ⟨#[65, 42]⟩
 else if t.op = 38 then ⟨#[82, 42]⟩
 else if t.op = 39 then (rW t)
 else if t.op = 43 then ⟨#[116]⟩
 else if t.op = 44 ∨ t.op = 45 ∨ t.op = 52 then ⟨#[69, 69]⟩
 else if t.op = 46 then (if t.s = ⟨#[61]⟩ then ⟨#[84, 69]⟩ else ⟨#[116, 69]⟩)
 else if t.op = 47 then ⟨#[69, 69, 69]⟩
 else if t.op = 48 then ⟨#[69, 69, 69, 42]⟩
 else if t.op = 49 ∨ t.op = 50 then ⟨#[69, 97, 42]⟩
 else if t.op = 51 then ⟨#[69]⟩
 else if t.op = 53 then ⟨#[99]⟩
 else if t.op = 54 then (if t.n = 1 then ⟨#[69]⟩ else ⟨#[69, 63]⟩)
 else if t.op = 60 then ⟨#[72, 42, 90, 63]⟩
 else if t.op = 61 then ⟨#[81, 42, 90, 63]⟩
 else if t.op = 62 then (if t.m = 1 then ⟨#[69, 70]⟩ else ⟨#[107, 70]⟩)
 else if t.op = 63 then ⟨#[84, 69]⟩
 else if t.op = 64 then ⟨#[84]⟩
 else ⟨#[33]⟩
def bL (t : T) : ByteArray :=
 if t.op = 1 ∨ t.op = 6 then ⟨#[83, 42]⟩
 else if t.op = 2 then ⟨#[68, 68, 42]⟩
 else if t.op = 3 then ⟨#[84, 69, 63]⟩
 else if t.op = 4 then (if (IntKind.i64.wrap (t.n.tdiv 128)).tmod 2 = 1 then ⟨#[80, 69]⟩ else ⟨#[80, 66]⟩)
 else if t.op = 5 then ⟨#[70, 42, 90, 63]⟩
 else if t.op = 7 ∨ t.op = 15 ∨ t.op = 16 ∨ t.op = 30 ∨ t.op = 31 ∨ t.op = 32 ∨ t.op = 33 ∨ t.op = 34 ∨ t.op = 35 ∨ t.op = 40 then ⟨#[]⟩
 else if t.op = 8 ∨ t.op = 18 ∨ t.op = 41 ∨ t.op = 42 then ⟨#[69]⟩
 else if t.op = 9 then ⟨#[69, 83, 83, 63]⟩
 else if t.op = 10 then ⟨#[73, 77, 77, 83]⟩
 else if t.op = 11 ∨ t.op = 12 then ⟨#[76, 69, 83]⟩
 else if t.op = 13 then ⟨#[69, 83]⟩
 else if t.op = 14 then ⟨#[83, 69]⟩
 else if t.op = 17 then ⟨#[69, 63]⟩
 else if t.op = 19 then ⟨#[66, 67, 89]⟩
 else if t.op = 20 then ⟨#[71, 66]⟩
 else jD t
theorem aCm (t : T) : (oJ t).size = 1 := by unfold oJ; split <;> rfl
attribute [local irreducible] oJ G GC GQ GA eN Calls IntKind.wrap Int.decLt Int.decLe
theorem WB (t : T) (u : Value) (w : World) (μ : Mem) (hμ : MOk μ w) (hk : KR μ t.kids u) :
 aV 92 #[.agg (aY t u).toArray] w (.string (rW t)) := by
 have ho := hk.one
 refine aE (args := [.agg (aY t u).toArray]) Tryz.func92 rfl Tryz.ntmps92 (by simp) hμ ?_
 by_cases hm : t.m = 1
 ·have hg : oJ t = ⟨#[69]⟩ := by unfold oJ; rw [if_pos hm]
  unfold rW
  rw [hg]
  try repeat' (first | refine KO ?_ | (refine KV (b := by ((with_reducible apply UY); exact rfl; exact rfl; decide)) (c := ?_)) | refine KZ ?_ | refine NB fun b => ?_ | (refine KB ?_ ?_ <;> intro a))
  all_goals (refine aJ rfl rfl ?_; (repeat first | rw [if_pos (by omega)] | rw [if_neg (by omega)]); done)
 ·have hg : oJ t = ⟨#[107]⟩ := by unfold oJ; rw [if_neg hm]
  unfold rW
  rw [hg]
  try repeat' (first | refine KO ?_ | (refine KV (b := by ((with_reducible apply UY); exact rfl; exact rfl; decide)) (c := ?_)) | refine KZ ?_ | refine NB fun b => ?_ | (refine KB ?_ ?_ <;> intro a))
  all_goals (refine aJ rfl rfl ?_; (repeat first | rw [if_pos (by omega)] | rw [if_neg (by omega)]); done)
theorem aBw (t : T) (u : Value) (w : World) (μ : Mem) (hμ : MOk μ w) (hk : KR μ t.kids u) :
 aV 69 #[.agg (aY t u).toArray] w (.string (jD t)) := by
 have ho := hk.one
 refine aE (args := [.agg (aY t u).toArray]) Tryz.func69 rfl Tryz.ntmps69 (by simp) hμ ?_
 unfold jD
 by_cases af : t.op = 21
 ·rw [if_pos af]
  try repeat' (first | refine KZ ?_ | refine NB fun b => ?_)
  all_goals exact aJ rfl rfl rfl
 rw [if_neg af]
 by_cases ae : t.op = 22
 ·rw [if_pos ae]
  by_cases e : t.n = 1
  ·rw [if_pos e]
   try repeat' (first | refine KZ ?_ | refine NB fun b => ?_)
   all_goals exact aJ rfl rfl rfl
  ·rw [if_neg e]
   try repeat' (first | refine KZ ?_ | refine NB fun b => ?_)
   all_goals exact aJ rfl rfl rfl
 rw [if_neg ae]
 by_cases ad : t.op = 23
 ·rw [if_pos ad]
  try repeat' (first | refine KZ ?_ | refine NB fun b => ?_)
  all_goals exact aJ rfl rfl rfl
 rw [if_neg ad]
 by_cases ab : t.op = 37
 ·rw [if_pos ab]
  try repeat' (first | refine KZ ?_ | refine NB fun b => ?_)
  all_goals exact aJ rfl rfl rfl
 rw [if_neg ab]
 by_cases aa : t.op = 38
 ·rw [if_pos aa]
  try repeat' (first | refine KZ ?_ | refine NB fun b => ?_)
  all_goals exact aJ rfl rfl rfl
 rw [if_neg aa]
 by_cases z : t.op = 39
 ·rw [if_pos z]
  try repeat' (first | refine KO ?_ | refine K2 92 (fun w μc hw ag => WB t u w μc hw (hk.mono ag)) ?_ | refine KZ ?_ | refine NB fun b => ?_)
  all_goals exact aJ rfl rfl rfl
 rw [if_neg z]
 by_cases y : t.op = 43
 ·rw [if_pos y]
  try repeat' (first | refine KZ ?_ | refine NB fun b => ?_)
  all_goals exact aJ rfl rfl rfl
 rw [if_neg y]
 by_cases x : t.op = 44 ∨ t.op = 45 ∨ t.op = 52
 ·rw [if_pos x]
  try repeat' (first | refine KZ ?_ | refine NB fun b => ?_ | (refine KB ?_ ?_ <;> intro hp))
  all_goals exact aJ rfl rfl rfl
 rw [if_neg x]
 by_cases v : t.op = 46
 ·rw [if_pos v]
  by_cases d : t.s = ⟨#[61]⟩
  ·rw [if_pos d]
   try repeat' (first | refine KZ ?_ | refine NB fun b => ?_)
   all_goals exact aJ rfl rfl rfl
  ·rw [if_neg d]
   try repeat' (first | refine KZ ?_ | refine NB fun b => ?_)
   all_goals exact aJ rfl rfl rfl
 rw [if_neg v]
 by_cases r : t.op = 47
 ·rw [if_pos r]
  try repeat' (first | refine KZ ?_ | refine NB fun b => ?_)
  all_goals exact aJ rfl rfl rfl
 rw [if_neg r]
 by_cases q : t.op = 48
 ·rw [if_pos q]
  try repeat' (first | refine KZ ?_ | refine NB fun b => ?_)
  all_goals exact aJ rfl rfl rfl
 rw [if_neg q]
 by_cases p : t.op = 49 ∨ t.op = 50
 ·rw [if_pos p]
  try repeat' (first | refine KZ ?_ | refine NB fun b => ?_ | (refine KB ?_ ?_ <;> intro hp))
  all_goals exact aJ rfl rfl rfl
 rw [if_neg p]
 by_cases o : t.op = 51
 ·rw [if_pos o]
  try repeat' (first | refine KZ ?_ | refine NB fun b => ?_)
  all_goals exact aJ rfl rfl rfl
 rw [if_neg o]
 by_cases l : t.op = 53
 ·rw [if_pos l]
  try repeat' (first | refine KZ ?_ | refine NB fun b => ?_)
  all_goals exact aJ rfl rfl rfl
 rw [if_neg l]
 by_cases k : t.op = 54
 ·rw [if_pos k]
  by_cases c : t.n = 1
  ·rw [if_pos c]
   try repeat' (first | refine KZ ?_ | refine NB fun b => ?_)
   all_goals exact aJ rfl rfl rfl
  ·rw [if_neg c]
   try repeat' (first | refine KZ ?_ | refine NB fun b => ?_)
   all_goals exact aJ rfl rfl rfl
 rw [if_neg k]
 by_cases j : t.op = 60
 ·rw [if_pos j]
  try repeat' (first | refine KZ ?_ | refine NB fun b => ?_)
  all_goals exact aJ rfl rfl rfl
 rw [if_neg j]
 by_cases i : t.op = 61
 ·rw [if_pos i]
  try repeat' (first | refine KZ ?_ | refine NB fun b => ?_)
  all_goals exact aJ rfl rfl rfl
 rw [if_neg i]
 by_cases h : t.op = 62
 ·rw [if_pos h]
  by_cases a : t.m = 1
  ·rw [if_pos a]
   try repeat' (first | refine KZ ?_ | refine NB fun b => ?_)
   all_goals exact aJ rfl rfl rfl
  ·rw [if_neg a]
   try repeat' (first | refine KZ ?_ | refine NB fun b => ?_)
   all_goals exact aJ rfl rfl rfl
 rw [if_neg h]
 by_cases g : t.op = 63
 ·rw [if_pos g]
  try repeat' (first | refine KZ ?_ | refine NB fun b => ?_)
  all_goals exact aJ rfl rfl rfl
 rw [if_neg g]
 by_cases f : t.op = 64
 ·rw [if_pos f]
  try repeat' (first | refine KZ ?_ | refine NB fun b => ?_)
  all_goals exact aJ rfl rfl rfl
 rw [if_neg f]
 try repeat' (first | refine KZ ?_ | refine NB fun b => ?_)
 all_goals exact aJ rfl rfl rfl
theorem WW (t : T) (u : Value) (w : World) (μ : Mem) (hμ : MOk μ w) (hk : KR μ t.kids u) :
 aV 45 #[.agg (aY t u).toArray] w (.string (bL t)) := by
 have ho := hk.one
 refine aE (args := [.agg (aY t u).toArray]) Tryz.func45 rfl Tryz.ntmps45 (by simp) hμ ?_
 unfold bL
 by_cases h1 : t.op = 1 ∨ t.op = 6
 ·rw [if_pos h1]
  try repeat' (first | refine KZ ?_ | refine NB fun b => ?_ | (refine KB ?_ ?_ <;> intro l))
  all_goals exact aJ rfl rfl rfl
 rw [if_neg h1]
 by_cases h2 : t.op = 2
 ·rw [if_pos h2]
  try repeat' (first | refine KZ ?_ | refine NB fun b => ?_)
  all_goals exact aJ rfl rfl rfl
 rw [if_neg h2]
 by_cases h3 : t.op = 3
 ·rw [if_pos h3]
  try repeat' (first | refine KZ ?_ | refine NB fun b => ?_)
  all_goals exact aJ rfl rfl rfl
 rw [if_neg h3]
 by_cases h4 : t.op = 4
 ·rw [if_pos h4]
  by_cases a : (IntKind.i64.wrap (t.n.tdiv 128)).tmod 2 = 1
  ·rw [if_pos a]
   try repeat' (first | refine KO ?_ | (refine KV (b := by ((with_reducible apply QG); exact rfl; exact rfl; decide)) (c := ?_)) | refine KZ ?_ | refine NB fun b => ?_)
   all_goals exact aJ rfl rfl rfl
  ·rw [if_neg a]
   try repeat' (first | refine KO ?_ | (refine KV (b := by ((with_reducible apply QG); exact rfl; exact rfl; decide)) (c := ?_)) | refine KZ ?_ | refine NB fun b => ?_)
   all_goals exact aJ rfl rfl rfl
 rw [if_neg h4]
 by_cases h5 : t.op = 5
 ·rw [if_pos h5]
  try repeat' (first | refine KZ ?_ | refine NB fun b => ?_)
  all_goals exact aJ rfl rfl rfl
 rw [if_neg h5]
 by_cases q : t.op = 7 ∨ t.op = 15 ∨ t.op = 16 ∨ t.op = 30 ∨ t.op = 31 ∨ t.op = 32 ∨ t.op = 33 ∨ t.op = 34 ∨ t.op = 35 ∨ t.op = 40
 ·rw [if_pos q]
  try repeat' (first | refine KZ ?_ | refine NB fun b => ?_ | (refine KB ?_ ?_ <;> intro l))
  all_goals exact aJ rfl rfl rfl
 rw [if_neg q]
 by_cases p : t.op = 8 ∨ t.op = 18 ∨ t.op = 41 ∨ t.op = 42
 ·rw [if_pos p]
  try repeat' (first | refine KZ ?_ | refine NB fun b => ?_ | (refine KB ?_ ?_ <;> intro l))
  all_goals exact aJ rfl rfl rfl
 rw [if_neg p]
 by_cases o : t.op = 9
 ·rw [if_pos o]
  try repeat' (first | refine KZ ?_ | refine NB fun b => ?_)
  all_goals exact aJ rfl rfl rfl
 rw [if_neg o]
 by_cases j : t.op = 10
 ·rw [if_pos j]
  try repeat' (first | refine KZ ?_ | refine NB fun b => ?_)
  all_goals exact aJ rfl rfl rfl
 rw [if_neg j]
 by_cases i : t.op = 11 ∨ t.op = 12
 ·rw [if_pos i]
  try repeat' (first | refine KZ ?_ | refine NB fun b => ?_ | (refine KB ?_ ?_ <;> intro l))
  all_goals exact aJ rfl rfl rfl
 rw [if_neg i]
 by_cases h : t.op = 13
 ·rw [if_pos h]
  try repeat' (first | refine KZ ?_ | refine NB fun b => ?_)
  all_goals exact aJ rfl rfl rfl
 rw [if_neg h]
 by_cases g : t.op = 14
 ·rw [if_pos g]
  try repeat' (first | refine KZ ?_ | refine NB fun b => ?_)
  all_goals exact aJ rfl rfl rfl
 rw [if_neg g]
 by_cases f : t.op = 17
 ·rw [if_pos f]
  try repeat' (first | refine KZ ?_ | refine NB fun b => ?_)
  all_goals exact aJ rfl rfl rfl
 rw [if_neg f]
 by_cases e : t.op = 19
 ·rw [if_pos e]
  try repeat' (first | refine KZ ?_ | refine NB fun b => ?_)
  all_goals exact aJ rfl rfl rfl
 rw [if_neg e]
 by_cases d : t.op = 20
 ·rw [if_pos d]
  try repeat' (first | refine KZ ?_ | refine NB fun b => ?_)
  all_goals exact aJ rfl rfl rfl
 rw [if_neg d]
 try repeat' (first | refine KO ?_ | refine K2 69 (fun w μc hw k => aBw t u w μc hw (hk.mono k)) ?_ | refine KZ ?_ | refine NB fun b => ?_)
 all_goals exact aJ rfl rfl rfl
end
section
open Go.RowKit Go.Vcg
noncomputable def stB (t : T) : Bool :=
 if t.op = 1 ∨ t.op = 6 then iS fJ 0 (-1) t.kids
 else if t.op = 2 then iS (ofT [3]) 1 (-1) t.kids
 else if t.op = 3 then dK [(cW, 0), (bR, 1)] t.kids
 else if t.op = 4 then dK (eI [ofT [5], wJ t]) t.kids
 else if t.op = 5 then dK [(eiT [cW, ofT [63]], 2), (ofT [64], 1)] t.kids
 else if t.op = 7 ∨ t.op = 15 ∨ t.op = 16 then decide (t.kids.length = 0)
 else if t.op = 8 ∨ t.op = 18 then dK (eI [bR]) t.kids
 else if t.op = 9 then dK [(bR, 0), (fJ, 0), (fJ, 1)] t.kids
 else if t.op = 10 then dK (eI [ofT [2, 8, 7], eiT [bR, ofT [7]], eiT [bR, ofT [7]], fJ]) t.kids
 else if t.op = 11 ∨ t.op = 12 then dK (eI [rX, bR, fJ]) t.kids
 else if t.op = 13 then dK (eI [bR, fJ]) t.kids
 else if t.op = 14 then dK (eI [fJ, bR]) t.kids
 else if t.op = 17 then iS bR 0 1 t.kids
 else if t.op = 20 then dK (eI [eiT [cW, ofT [7]], ofT [6]]) t.kids
 else if t.op = 21 then dK [(bR, 0), (ofT [22], 2)] t.kids
 else if t.op = 22 then (if t.n = 1 then iS fJ 0 (-1) t.kids else dK [(bR, 0), (fJ, 2)] t.kids)
 else if t.op = 19 then NY t.kids
 else dK (eI [fJ]) t.kids
noncomputable def exB (t : T) : Bool :=
 if t.op = 30 ∨ t.op = 31 ∨ t.op = 32 ∨ t.op = 33 ∨ t.op = 34 ∨ t.op = 35 ∨ t.op = 40 then decide (t.kids.length = 0)
 else if t.op = 36 then mJ bR t.kids
 else if t.op = 37 then iS (eiT [bR, ofT [40, 41]]) 0 (-1) t.kids
 else if t.op = 38 then iS (ofT [39]) 0 (-1) t.kids
 else if t.op = 39 then pZ t
 else if t.op = 41 ∨ t.op = 42 then dK (eI [bR]) t.kids
 else if t.op = 43 then dK (eI [iE]) t.kids
 else if t.op = 44 ∨ t.op = 45 ∨ t.op = 52 then iS bR 2 2 t.kids
 else if t.op = 46 then (if t.s = ⟨#[61]⟩ then dK (eI [cW, bR]) t.kids else dK (eI [iE, bR]) t.kids)
 else if t.op = 47 then iS bR 3 3 t.kids
 else if t.op = 48 then iS bR 2 (-1) t.kids
 else if t.op = 49 ∨ t.op = 50 then dK [(bR, 0), (FM, 2)] t.kids
 else if t.op = 51 then iS bR 1 1 t.kids
 else if t.op = 53 then rU t.kids
 else if t.op = 54 then iS bR t.n 1 t.kids
 else kG t
theorem FN (t : T) (u : Value) (w : World) (μ : Mem) (hμ : MOk μ w) (hk : KR μ t.kids u) (hs : t.size ≤ 100000) (a : ∀ k ∈ t.kids, T.size k ≤ 100000 ∧ k.s.size ≤ 65536) :
 aV 80 #[.agg (aY t u).toArray] w (.bool (stB t)) := by
 unfold stB
 by_cases g : t.op = 1 ∨ t.op = 6
 ·rw [if_pos g]
  exact aHw t u w μ hμ hk hs a g
 rw [if_neg g]
 by_cases p : t.op = 2
 ·rw [if_pos p]
  exact aLi t u w μ hμ hk hs a p
 rw [if_neg p]
 by_cases l : t.op = 3
 ·rw [if_pos l]
  exact aH0 t u w μ hμ hk hs a l
 rw [if_neg l]
 by_cases i : t.op = 4
 ·rw [if_pos i]
  exact aHy t u w μ hμ hk hs a i
 rw [if_neg i]
 by_cases c : t.op = 5
 ·rw [if_pos c]
  exact aA6 t u w μ hμ hk hs a c
 rw [if_neg c]
 by_cases h : t.op = 7 ∨ t.op = 15 ∨ t.op = 16
 ·rw [if_pos h]
  exact aHx t u w μ hμ hk hs a h
 rw [if_neg h]
 by_cases j : t.op = 8 ∨ t.op = 18
 ·rw [if_pos j]
  exact aHz t u w μ hμ hk hs a j
 rw [if_neg j]
 by_cases x : t.op = 9
 ·rw [if_pos x]
  exact aN9 t u w μ hμ hk hs a x
 rw [if_neg x]
 by_cases v : t.op = 10
 ·rw [if_pos v]
  exact aLl t u w μ hμ hk hs a v
 rw [if_neg v]
 by_cases e : t.op = 11 ∨ t.op = 12
 ·rw [if_pos e]
  exact aDw t u w μ hμ hk hs a e
 rw [if_neg e]
 by_cases d : t.op = 13
 ·rw [if_pos d]
  exact aDv t u w μ hμ hk hs a d
 rw [if_neg d]
 by_cases y : t.op = 14
 ·rw [if_pos y]
  exact aOa t u w μ hμ hk hs a y
 rw [if_neg y]
 by_cases r : t.op = 17
 ·rw [if_pos r]
  exact aLk t u w μ hμ hk hs a r
 rw [if_neg r]
 by_cases f : t.op = 20
 ·rw [if_pos f]
  exact aDx t u w μ hμ hk hs a f
 rw [if_neg f]
 by_cases b : t.op = 21
 ·rw [if_pos b]
  exact aA5 t u w μ hμ hk hs a b
 rw [if_neg b]
 by_cases o : t.op = 22
 ·rw [if_pos o]
  exact aH1 t u w μ hμ hk hs a o
 rw [if_neg o]
 by_cases q : t.op = 19
 ·rw [if_pos q]
  exact aLj t u w μ hμ hk hs a q
 rw [if_neg q]
 exact aHv t u w μ hμ hk hs a (by omega)
theorem EC (t : T) (u : Value) (w : World) (μ : Mem) (hμ : MOk μ w) (hk : KR μ t.kids u) (hs : t.size ≤ 100000) (b : ∀ k ∈ t.kids, T.size k ≤ 100000 ∧ k.s.size ≤ 65536) (y : ∀ k ∈ t.kids, Sh' k) :
 aV 79 #[.agg (aY t u).toArray] w (.bool (exB t)) := by
 unfold exB
 by_cases l : t.op = 30 ∨ t.op = 31 ∨ t.op = 32 ∨ t.op = 33 ∨ t.op = 34 ∨ t.op = 35 ∨ t.op = 40
 ·rw [if_pos l]
  exact aJv t u w μ hμ hk hs b l
 rw [if_neg l]
 by_cases i : t.op = 36
 ·rw [if_pos i]
  exact aJs t u w μ hμ hk hs b i
 rw [if_neg i]
 by_cases h : t.op = 37
 ·rw [if_pos h]
  exact aGn t u w μ hμ hk hs b h
 rw [if_neg h]
 by_cases e : t.op = 38
 ·rw [if_pos e]
  exact aC1 t u w μ hμ hk hs b e
 rw [if_neg e]
 by_cases j : t.op = 39
 ·rw [if_pos j]
  exact aJu t u w μ hμ hk hs b j
 rw [if_neg j]
 by_cases d : t.op = 41 ∨ t.op = 42
 ·rw [if_pos d]
  exact aC0 t u w μ hμ hk hs b d
 rw [if_neg d]
 by_cases c : t.op = 43
 ·rw [if_pos c]
  exact aCz t u w μ hμ hk hs b c
 rw [if_neg c]
 by_cases v : t.op = 44 ∨ t.op = 45 ∨ t.op = 52
 ·rw [if_pos v]
  exact aM9 t u w μ hμ hk hs b v
 rw [if_neg v]
 by_cases a : t.op = 46
 ·rw [if_pos a]
  by_cases x : t.s = ⟨#[61]⟩
  ·rw [if_pos x]
   exact XM t u w μ hμ hk hs b a x
  ·rw [if_neg x]
   exact XN t u w μ hμ hk hs b a x
 rw [if_neg a]
 by_cases o : t.op = 47
 ·rw [if_pos o]
  exact aJw t u w μ hμ hk hs b o
 rw [if_neg o]
 by_cases q : t.op = 48
 ·rw [if_pos q]
  exact aM7 t u w μ hμ hk hs b q
 rw [if_neg q]
 by_cases p : t.op = 49 ∨ t.op = 50
 ·rw [if_pos p]
  exact aJx t u w μ hμ hk hs b p
 rw [if_neg p]
 by_cases r : t.op = 51
 ·rw [if_pos r]
  exact aM8 t u w μ hμ hk hs b r
 rw [if_neg r]
 by_cases g : t.op = 53
 ·rw [if_pos g]
  exact aGm t u w μ hμ hk hs b g y
 rw [if_neg g]
 by_cases f : t.op = 54
 ·rw [if_pos f]
  exact aGk t u w μ hμ hk hs b f
 rw [if_neg f]
 exact aJt t u w μ hμ hk hs b (by omega)
end
end Go.Proofs.YtlllalmkkaolfaaGreatDoor
