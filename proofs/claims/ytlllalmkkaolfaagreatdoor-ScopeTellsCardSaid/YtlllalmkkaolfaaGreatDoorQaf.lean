/- fits: whether children match a row. -/
import Derived.Test.YtlllalmkkaolfaaGreatDoorQae
set_option maxRecDepth 20000
set_option maxHeartbeats 2000000
namespace Go.Proofs.YtlllalmkkaolfaaGreatDoor
section
open Go.RowKit Go.Vcg
theorem KR.AE {μ : Mem} {ks : List T} {A : Option Addr} {n c : Nat} (h : KR μ ks (.slice A n c)) (hn : 1 ≤ n) : KR μ (ks.drop 1) (.slice (if c = 1 then A else A.map (·.add (1 * 6))) (n - 1) (c - 1)) := by
 cases h with
 | mk _ A c vs hcap hcell hone hsub =>
   have e : (ks.drop 1).length = ks.length - 1 := by simp
   have h0 : ∀ (i : Nat) (t : T), (ks.drop 1)[i]? = some t → ks[1 + i]? = some t := fun i t hi => by simpa [lF] using hi
   have := KR.mk (μ := μ) (ks.drop 1) (if c = 1 then A else A.map (·.add (1 * 6))) (c - 1) (fun i => vs (1 + i)) (by omega) (fun i t hi => ?_) (fun i t hi => hone _ t (h0 i t hi)) (fun i t hi => hsub _ t (h0 i t hi))
   ·rw [e] at this
    exact this
   ·obtain ⟨a, e, hc⟩ := hcell _ t (h0 i t hi)
    have : 1 + i < ks.length := (List.getElem?_eq_some_iff.1 (h0 i t hi)).1
    rw [if_neg (by omega), e]
    refine ⟨_, rfl, ?_⟩
    rw [mX, ← eB]
    exact hc
def mW (p : T → Bool) (m : Int) : Nat → List T → Nat × List T
 | n, [] => (n, [])
 | n, k :: r => if p k = true ∧ (n = 0 ∨ m = 2) then mW p m (n + 1) r else (n, k :: r)
def dK : List ((T → Bool) × Int) → List T → Bool
 | [], l => decide (l.length = 0)
 | (p, m) :: r, l => if (mW p m 0 l).1 = 0 ∧ m = 0 then false else dK r (mW p m 0 l).2
theorem qW {α : Type} {l : List α} {j : Nat} {t : α} (h : l[j]? = some t) : l.drop j = t :: l.drop (j + 1) := by
 obtain ⟨hlt, e⟩ := List.getElem?_eq_some_iff.1 h
 rw [← e, List.getElem_cons_drop]
attribute [local irreducible] G GC GQ GA eN Calls IntKind.wrap Int.decLt Int.decLe
theorem aCt (parts : List (Value × Int)) (rows : List ((T → Bool) × Int)) (ks : List T) (A B : Option Addr) (n c m d : Nat) (w : World) (μ : Mem) (hμ : MOk μ w) (hk : KR μ ks (.slice A n c)) (ap : ks.length = n) (hn : n ≤ 100000) (hS : Sl pB 2 μ B m parts) (hm : m ≤ 1000) (ba : rows.length = m) (ai : ∀ (i : Nat) (x : Value × Int) (y : (T → Bool) × Int), parts[i]? = some x → rows[i]? = some y → x.2 = y.2 ∧ Cls μ x.1 y.1) (ay : ∀ k ∈ ks, T.size k ≤ 100000 ∧ k.s.size ≤ 65536) :
 aV 124 #[.slice A n c, .slice B m d] w (.bool (dK rows ks)) := by
 refine aE (args := [.slice A n c, .slice B m d]) Tryz.func124 rfl Tryz.ntmps124 (by simp) hμ ?_
 generalize hR : dK rows ks = R
 try repeat' (refine KZ ?_)
 refine bW (ι := Nat × Nat × Option Addr × Nat) (fun i => i.1 ≤ m ∧ i.2.1 ≤ n ∧ KR μ (ks.drop i.2.1) (.slice i.2.2.1 (n - i.2.1) i.2.2.2) ∧ dK (rows.drop i.1) (ks.drop i.2.1) = R) (fun i => m - i.1) (fun _ => μ) (fun i => [(10, .int .i64 i.1), (9, .int .i64 m), (8, .slice B m d), (0, .slice i.2.2.1 (n - i.2.1) i.2.2.2)]) (fun _ => []) (0, 0, A, c) ⟨by simp, by simp, by simpa using hk, by simpa using hR⟩ (fun a w hs => J6 hs) ?_
 rintro ⟨i, j, Aj, cj⟩ ⟨hi, hj, aq, aa⟩
 dsimp only at hi hj aq aa ⊢
 by_cases hlt : i < m
 ·obtain ⟨ad, ⟨v, mm⟩, rfl, hx, av⟩ := hS.get hlt
  have hy : rows[i]? = some rows[i] := aA (by omega)
  generalize rows[i] = y at hy
  obtain ⟨p, mm'⟩ := y
  obtain ⟨he, ah⟩ := ai i _ _ hx hy
  dsimp only at he ah
  subst he
  obtain ⟨f, cap, rfl, a8, hf⟩ := ah
  rw [qW hy] at aa
  try repeat' (first | refine KO ?_ | (refine KV (b := by first | exact U1 i | exact U4 av) (c := ?_)) | refine KZ ?_ | refine NB fun b => ?_)
  refine bW (ι := Nat × Nat × Option Addr × Nat) (fun q => q.1 ≤ q.2.1 ∧ q.2.1 ≤ n ∧ KR μ (ks.drop q.2.1) (.slice q.2.2.1 (n - q.2.1) q.2.2.2) ∧ mW p mm q.1 (ks.drop q.2.1) = mW p mm 0 (ks.drop j)) (fun q => n - q.2.1) (fun _ => μ) (fun q => [(7, .int .i64 q.1), (6, .pointer (some ⟨b, 0, none⟩)), (10, .int .i64 i), (9, .int .i64 m), (8, .slice (some ad) m d), (0, .slice q.2.2.1 (n - q.2.1) q.2.2.2)]) (fun _ => [.inl ⟨b, 150, 2, idx 0 [.func (.func f) #[] cap.toArray, .int .i64 mm]⟩]) (0, j, Aj, cj) ⟨aI _, hj, aq, rfl⟩ (fun a w hs => J5 hs) ?_
  rintro ⟨cnt, j2, A2, c2⟩ ⟨a1, af, z, al⟩
  dsimp only at a1 af z al ⊢
  have ag : ∀ l, mW p mm cnt (ks.drop j2) = (cnt, l) → l = ks.drop j2 → (if cnt = 0 ∧ mm = 0 then false else dK (rows.drop (i + 1)) (ks.drop j2)) = R := fun l h hl => by
   rw [dK, ← al, h, hl] at aa
   exact aa
  by_cases a7 : j2 < n
  ·have ak : ks[j2]? = some ks[j2] := aA (by omega)
   generalize ks[j2] = t at ak
   have r := qW ak
   have ao := z.AE (by omega)
   rw [kD] at ao
   obtain ⟨A', c', e, aw, ar⟩ := z.form
   have az : (ks.drop j2).length = n - j2 := by rw [cQ, ap]
   rw [az] at e aw
   cases e
   obtain ⟨ad2, x, rfl, ae, bb, ax⟩ := ar 0 t (by rw [r]; rfl)
   have an := ay t (aB ak)
   have g := fun w μc hw (hle : MLe μ μc) => hf t x w μc hw hle (ax.mono hle) an.1 an.2
   by_cases ab : p t = true ∧ (cnt = 0 ∨ mm = 2)
   ·have u : mW p mm (cnt + 1) (ks.drop (j2 + 1)) = mW p mm 0 (ks.drop j) := by
     rw [← al, r, mW, if_pos ab]
    rw [ab.1] at g
    have au := ab.2
    try repeat' (refine KZ ?_)
    refine aT 20 _ (by kernel_rfl) rfl (aC aQ) ?_
    all_goals (refine DD 0 ?_; refine D1 1 ?_; refine D1 2 ?_; refine DD 3 ?_)
    all_goals (try (refine D7 4 ?_; (repeat' (refine KO ?_))))
    all_goals (refine D1 4 ?_; refine DD 5 ?_; refine DD 6 ?_; refine D2 7 rfl (by exact U1 0) ?_; refine D2 8 rfl (by exact U4 ae) ?_)
    all_goals (refine D3 9 ?_; refine D5 ?_; (with_reducible apply C1); exact rfl; exact EN; exact fun w μc hw o => g w μc hw o.le; refine D9 ?_)
    all_goals (refine DD 10 ?_; refine DD 11 ?_; (try refine D7 12 ?_); refine DD 12 ?_; refine D1 13 ?_; refine DD 14 ?_)
    all_goals (try (refine D7 15 ?_; (repeat' (refine KB ?_ ?_ <;> intro hp))))
    all_goals (refine D1 15 ?_; (first | refine D1 16 ?_ | refine DD 16 ?_); refine D1 17 ?_; refine DD 18 ?_; refine DD 19 ?_; refine D8 ?_)
    all_goals
     try repeat' (first | refine KO ?_ | (refine KV (b := by ((with_reducible apply kK 1); (iterate 5 exact rfl); omega)) (c := ?_)) | refine KZ ?_)
    all_goals first
     | exact J2 (cnt + 1, j2 + 1, _, _) ⟨by show cnt + 1 ≤ j2 + 1; omega, by show j2 + 1 ≤ n; omega, ao, u⟩ (by show n - (j2 + 1) < n - j2; omega)
     | (exfalso; omega)
   ·have u := ag _ (by rw [r, mW, if_neg ab]) r.symm
    cases aj : p t
    ·rw [aj] at g
     by_cases hz : cnt = 0 ∧ mm = 0
     ·rw [if_pos hz] at u
      try repeat' (refine KZ ?_)
      refine aT 20 _ (by kernel_rfl) rfl (aC aQ) ?_
      all_goals (refine DD 0 ?_; refine D1 1 ?_; refine D1 2 ?_; refine DD 3 ?_)
      all_goals (try (refine D7 4 ?_; (repeat' (refine KO ?_))))
      all_goals (refine D1 4 ?_; refine DD 5 ?_; refine DD 6 ?_; refine D2 7 rfl (by exact U1 0) ?_; refine D2 8 rfl (by exact U4 ae) ?_)
      all_goals (refine D3 9 ?_; refine D5 ?_; (with_reducible apply C1); exact rfl; exact EN; exact fun w μc hw o => g w μc hw o.le; refine D9 ?_)
      all_goals (refine DD 10 ?_; refine DD 11 ?_; (try refine D7 12 ?_); refine DD 12 ?_; refine D1 13 ?_; refine DD 14 ?_; (try refine D7 15 ?_); refine D1 15 ?_; refine D1 16 ?_; refine D1 17 ?_; refine DD 18 ?_; refine DD 19 ?_; refine D8 ?_)
      all_goals
       try repeat' (refine KZ ?_)
      all_goals first
       | exact aJ rfl rfl (congrArg _ u)
       | (exfalso; omega)
     ·rw [if_neg hz] at u
      try repeat' (refine KZ ?_)
      refine aT 20 _ (by kernel_rfl) rfl (aC aQ) ?_
      all_goals (refine DD 0 ?_; refine D1 1 ?_; refine D1 2 ?_; refine DD 3 ?_)
      all_goals (try (refine D7 4 ?_; (repeat' (refine KO ?_))))
      all_goals (refine D1 4 ?_; refine DD 5 ?_; refine DD 6 ?_; refine D2 7 rfl (by exact U1 0) ?_; refine D2 8 rfl (by exact U4 ae) ?_)
      all_goals (refine D3 9 ?_; refine D5 ?_; (with_reducible apply C1); exact rfl; exact EN; exact fun w μc hw o => g w μc hw o.le; refine D9 ?_)
      all_goals (refine DD 10 ?_; refine DD 11 ?_; (try refine D7 12 ?_); refine DD 12 ?_; refine D1 13 ?_; refine DD 14 ?_; (try refine D7 15 ?_); refine D1 15 ?_; refine D1 16 ?_; refine D1 17 ?_; refine DD 18 ?_; refine DD 19 ?_; refine D8 ?_)
      all_goals
       try repeat' (first | refine KZ ?_ | (refine KB ?_ ?_ <;> intro hp))
      all_goals first
       | exact J2 (i + 1, j2, _, _) ⟨by show i + 1 ≤ m; omega, af, z, u⟩ (by show m - (i + 1) < m - i; omega)
       | (exfalso; omega)
    ·rw [aj] at g
     have au : ¬(cnt = 0 ∨ mm = 2) := fun h => ab ⟨aj, h⟩
     by_cases hz : cnt = 0 ∧ mm = 0
     ·rw [if_pos hz] at u
      try repeat' (refine KZ ?_)
      refine aT 20 _ (by kernel_rfl) rfl (aC aQ) ?_
      all_goals (refine DD 0 ?_; refine D1 1 ?_; refine D1 2 ?_; refine DD 3 ?_)
      all_goals (try (refine D7 4 ?_; (repeat' (refine KO ?_))))
      all_goals (refine D1 4 ?_; refine DD 5 ?_; refine DD 6 ?_; refine D2 7 rfl (by exact U1 0) ?_; refine D2 8 rfl (by exact U4 ae) ?_)
      all_goals (refine D3 9 ?_; refine D5 ?_; (with_reducible apply C1); exact rfl; exact EN; exact fun w μc hw o => g w μc hw o.le; refine D9 ?_)
      all_goals (refine DD 10 ?_; refine DD 11 ?_; (try refine D7 12 ?_); refine DD 12 ?_; refine D1 13 ?_; refine DD 14 ?_)
      all_goals (try (refine D7 15 ?_; (repeat' (refine KO ?_))))
      all_goals (refine D1 15 ?_; refine D1 16 ?_; refine D1 17 ?_; refine DD 18 ?_; refine DD 19 ?_; refine D8 ?_)
      all_goals
       try repeat' (refine KZ ?_)
      all_goals first
       | exact aJ rfl rfl (congrArg _ u)
       | (exfalso; omega)
     ·rw [if_neg hz] at u
      try repeat' (refine KZ ?_)
      refine aT 20 _ (by kernel_rfl) rfl (aC aQ) ?_
      all_goals (refine DD 0 ?_; refine D1 1 ?_; refine D1 2 ?_; refine DD 3 ?_)
      all_goals (try (refine D7 4 ?_; (repeat' (refine KO ?_))))
      all_goals (refine D1 4 ?_; refine DD 5 ?_; refine DD 6 ?_; refine D2 7 rfl (by exact U1 0) ?_; refine D2 8 rfl (by exact U4 ae) ?_)
      all_goals (refine D3 9 ?_; refine D5 ?_; (with_reducible apply C1); exact rfl; exact EN; exact fun w μc hw o => g w μc hw o.le; refine D9 ?_)
      all_goals (refine DD 10 ?_; refine DD 11 ?_; (try refine D7 12 ?_); refine DD 12 ?_; refine D1 13 ?_; refine DD 14 ?_)
      all_goals (try (refine D7 15 ?_; (repeat' (refine KO ?_))))
      all_goals (refine D1 15 ?_; refine DD 16 ?_; refine D1 17 ?_; refine DD 18 ?_; refine DD 19 ?_; refine D8 ?_)
      all_goals
       try repeat' (refine KZ ?_)
      all_goals first
       | exact J2 (i + 1, j2, _, _) ⟨by show i + 1 ≤ m; omega, af, z, u⟩ (by show m - (i + 1) < m - i; omega)
       | (exfalso; omega)
  ·obtain rfl : j2 = n := by omega
   have r : ks.drop j2 = [] := bT (by omega)
   have u := ag _ (by rw [r, mW]) r.symm
   by_cases hz : cnt = 0 ∧ mm = 0
   ·rw [if_pos hz] at u
    try repeat' (refine KZ ?_)
    refine aT 20 _ (by kernel_rfl) rfl (aC aQ) ?_
    all_goals (refine DD 0 ?_; refine D1 1 ?_; refine D1 2 ?_; refine DD 3 ?_)
    all_goals (try (refine D7 4 ?_; (repeat' (refine KO ?_))))
    all_goals (refine D1 4 ?_; refine D1 5 ?_; refine DD 6 ?_; refine D1 7 ?_; refine D1 8 ?_; refine D3 9 (D6 ?_); refine DD 10 ?_; refine DD 11 ?_)
    all_goals ((try refine D7 12 ?_); refine DD 12 ?_; refine D1 13 ?_; refine DD 14 ?_; (try refine D7 15 ?_); refine D1 15 ?_; refine D1 16 ?_; refine D1 17 ?_; refine DD 18 ?_; refine DD 19 ?_; refine D8 ?_)
    all_goals
     try repeat' (refine KZ ?_)
    all_goals first
     | exact aJ rfl rfl (congrArg _ u)
     | (exfalso; omega)
   ·rw [if_neg hz] at u
    try repeat' (refine KZ ?_)
    refine aT 20 _ (by kernel_rfl) rfl (aC aQ) ?_
    all_goals (refine DD 0 ?_; refine D1 1 ?_; refine D1 2 ?_; refine DD 3 ?_)
    all_goals (try (refine D7 4 ?_; (repeat' (refine KO ?_))))
    all_goals (refine D1 4 ?_; refine D1 5 ?_; refine DD 6 ?_; refine D1 7 ?_; refine D1 8 ?_; refine D3 9 (D6 ?_); refine DD 10 ?_; refine DD 11 ?_)
    all_goals ((try refine D7 12 ?_); refine DD 12 ?_; refine D1 13 ?_; refine DD 14 ?_; (try refine D7 15 ?_); refine D1 15 ?_; refine D1 16 ?_; refine D1 17 ?_; refine DD 18 ?_; refine DD 19 ?_; refine D8 ?_)
    all_goals
     try repeat' (first | refine KZ ?_ | (refine KB ?_ ?_ <;> intro hp))
    all_goals first
     | exact J2 (i + 1, j2, _, _) ⟨by show i + 1 ≤ m; omega, af, z, u⟩ (by show m - (i + 1) < m - i; omega)
     | (exfalso; omega)
 ·obtain rfl : i = m := by omega
  rw [bT (by omega)] at aa
  have a6 : decide (n - j = 0) = R := by rw [← aa, ← ap, ← cQ]; rfl
  try repeat' (refine KZ ?_)
  refine aJ rfl rfl ?_
  rw [← a6]
  congr 1
  simp
  try omega
end
section
open Go.RowKit Go.Vcg
def wJ (t : T) : T → Bool := if fT t 128 = true then bR else ofT [6]
def pL (t : T) : T → Bool := if t.m = 1 then bR else ofT [31, 30]
def FM : T → Bool := eiT [bR, ofT [41]]
theorem Cls.form {μ : Mem} {v : Value} {p : T → Bool} (h : Cls μ v p) : ∃ (f : FuncId) (cap : List Value), v = .func (.func f) #[] cap.toArray := let ⟨f, cap, e, _⟩ := h; ⟨f, cap, e⟩
theorem KC (μ : Mem) : Cls μ (.func (.func 121) #[] #[]) bR := Cls.of rT (by kernel_rfl) μ
attribute [local irreducible] G GC GQ GA eN Calls IntKind.wrap Int.decLt Int.decLe
theorem aC8 (t : T) (u : Value) (w : World) (μ : Mem) (hμ : MOk μ w) (hk : KR μ t.kids u) (hs : t.size ≤ 100000) :
 Calls Tryz.prog 132 #[.agg (aY t u).toArray] w fun e w' => ∃ v μ', e = .returned v ∧ tB w w' μ μ' ∧ KM (wJ t) μ' v := by
 have ho := hk.one
 refine aE (args := [.agg (aY t u).toArray]) Tryz.func132 rfl Tryz.ntmps132 (by simp) hμ ?_
 unfold wJ
 cases i : fT t 128
 ·rw [if_neg (by simp)]
  try repeat' (first | refine KO ?_ | refine K2 147 (fun w μc hw c => i ▸ pC 128 t u w μc hw (hk.mono c) hs) ?_ | (refine CF 122 ?_; (with_reducible apply dA); exact rfl; intro μs g d; (with_reducible apply bK); (iterate 3 exact rfl); exact EN; exact fun w hw => dZ [6] _ _ _ w _ hw (cI d rfl (by simp) (by repeat first | exact bZ | refine bH rfl ?_)) (by omega); rintro v3 μ3 h f) | refine KZ ?_ | refine NB fun b => ?_)
  exact qI rfl (cN rfl) (fun μ' a hL => Cls.mono f a)
 ·rw [if_pos rfl]
  try repeat' (first | refine KO ?_ | refine K2 147 (fun w μc hw c => i ▸ pC 128 t u w μc hw (hk.mono c) hs) ?_ | refine KZ ?_ | refine NB fun b => ?_)
  exact qI rfl (cN rfl) (fun μ' a hL => KC μ')
theorem xJ (t : T) (u : Value) (w : World) (μ : Mem) (hμ : MOk μ w) (hk : KR μ t.kids u) :
 Calls Tryz.prog 156 #[.agg (aY t u).toArray] w fun e w' => ∃ v μ', e = .returned v ∧ tB w w' μ μ' ∧ KM (pL t) μ' v := by
 have ho := hk.one
 refine aE (args := [.agg (aY t u).toArray]) Tryz.func156 rfl Tryz.ntmps156 (by simp) hμ ?_
 unfold pL
 by_cases h1 : t.m = 1
 ·rw [if_pos h1]
  try repeat' (first | refine KZ ?_ | refine NB fun b => ?_)
  exact qI rfl (cN rfl) (fun μ' a hL => KC μ')
 ·rw [if_neg h1]
  try repeat' (first | refine KO ?_ | (refine CF 122 ?_; (with_reducible apply dA); exact rfl; intro μs f c; (with_reducible apply bK); (iterate 3 exact rfl); exact EN; exact fun w hw => dZ [31, 30] _ _ _ w _ hw (cI c rfl (by simp) (by repeat first | exact bZ | refine bH rfl ?_)) (by omega); rintro v3 μ3 g d) | refine KZ ?_ | refine NB fun b => ?_)
  exact qI rfl (cN rfl) (fun μ' a hL => Cls.mono d a)
theorem aDb (w : World) (μ : Mem) (hμ : MOk μ w) :
 Calls Tryz.prog 128 #[] w fun e w' => ∃ v μ', e = .returned v ∧ tB w w' μ μ' ∧ KM FM μ' v := by
 refine aE (args := []) Tryz.func128 rfl Tryz.ntmps128 (by simp) hμ ?_
 try repeat' (first | refine KO ?_ | (refine CF 122 ?_; (with_reducible apply dA); exact rfl; intro μs i c; (with_reducible apply bK); (iterate 3 exact rfl); exact EN; exact fun w hw => dZ [41] _ _ _ w _ hw (cI c rfl (by simp) (by repeat first | exact bZ | refine bH rfl ?_)) (by omega); rintro v3 μ3 k g; obtain ⟨f3, cap3, rfl⟩ := Cls.form g) | (refine CF 120 ?_; (with_reducible apply dA); exact rfl; intro μt d a; (with_reducible apply bK); (iterate 3 exact rfl); exact EN; exact fun w hw => iX [.func (.func 121) #[] #[], .func (.func f3) #[] cap3.toArray] [bR, ofT [41]] _ _ _ w _ hw (cI a rfl (by simp) (by repeat first | exact bZ | refine bH rfl ?_)) (bV.cons (KC _) (bV.cons (Cls.mono g d) (bV.nil _))) (by omega); rintro v4 μ4 j h) | refine KZ ?_ | refine NB fun b => ?_)
 exact qI rfl (cN rfl) (fun μ' f hL => Cls.mono h f)
end
section
open Go.RowKit Go.Vcg
def DF (i : Nat) (e : T → Bool) (t : T) : Prop := if i % 2 = 0 then t.op = 31 else e t = true
def AL (e : T → Bool) (ks : List T) : Prop := ks.length % 2 = 1 ∧ ∀ (i : Nat) (t : T), ks[i]? = some t → DF i e t
noncomputable def mJ (e : T → Bool) (ks : List T) : Bool := dB (AL e ks)
theorem BQ {e : T → Bool} {ks : List T} (h : AL e ks) : mJ e ks = true := by unfold mJ; exact aGw h
theorem uM {e : T → Bool} {ks : List T} (h : ¬AL e ks) : mJ e ks = false := by unfold mJ; exact aGx h
inductive oV : T → Prop
 | one {t : T} (h : gU t = true) (hn : t.n = 1) : oV t
 | more {t k : T} (h : gU t = true) (hk : t.kids[0]? = some k) (hc : oV k) : oV t
noncomputable def chB (t : T) : Bool := dB (oV t)
theorem NL {t : T} (h : oV t) : chB t = true := by unfold chB; exact aGw h
theorem AH {t : T} (h : ¬oV t) : chB t = false := by unfold chB; exact aGx h
theorem GX {t : T} (h : gU t = false) : ¬oV t := fun hc => by
 cases hc with
 | one h2 _ => rw [h] at h2; cases h2
 | more h2 _ _ => rw [h] at h2; cases h2
theorem aG2 {t : T} (h : t.n ≠ 1) (hk : t.kids[0]? = none) : ¬oV t := fun hc => by
 cases hc with
 | one _ h2 => exact h h2
 | more _ h2 _ => rw [hk] at h2; cases h2
theorem PQ {t k : T} (hl : gU t = true) (h : t.n ≠ 1) (hk : t.kids[0]? = some k) : oV t ↔ oV k := by
 constructor
 ·intro hc
  cases hc with
  | one _ h2 => exact absurd h2 h
  | more _ h2 h3 => rw [hk] at h2; cases h2; exact h3
 ·exact fun hc => .more hl hk hc
noncomputable def rU (ks : List T) : Bool := match ks with | [k] => chB k | _ => false
inductive Sh' : T → Prop
 | mk {t : T} (h : t.s.size ≤ 65536) (hk : ∀ k ∈ t.kids, Sh' k) : Sh' t
theorem Sh'.s {t : T} (h : Sh' t) : t.s.size ≤ 65536 := by cases h; assumption
theorem Sh'.kid {t k : T} (h : Sh' t) (hk : k ∈ t.kids) : Sh' k := by
 cases h with
 | mk _ h => exact h k hk
attribute [local irreducible] mJ chB G GC GQ GA eN Calls IntKind.wrap Int.decLt Int.decLe
theorem KQ (ks : List T) (A : Option Addr) (n c : Nat) (w : World) (μ : Mem) (hμ : MOk μ w) (hk : KR μ ks (.slice A n c)) (r : ks.length = n) (hn : n ≤ 100000) (z : ∀ k ∈ ks, T.size k ≤ 100000 ∧ k.s.size ≤ 65536) :
 aV 118 #[.slice A n c] w (.bool (mJ bR ks)) := by
 refine aE (args := [.slice A n c]) Tryz.func118 rfl Tryz.ntmps118 (by simp) hμ ?_
 have v : ∀ (i : Nat) (t : T), ks[i]? = some t → ∃ a u, A = some a ∧ eM μ (a.add (i * 6)) (aY t u) ∧ u.oneCell' = true ∧ KR μ t.kids u := by
  obtain ⟨A', c', e, _, hg⟩ := hk.form
  cases e
  exact hg
 try repeat' (refine KZ ?_)
 refine bW (ι := Nat) (fun i => i ≤ n ∧ ∀ (j : Nat) (t : T), j < i → ks[j]? = some t → DF j bR t) (fun i => n - i) (fun _ => μ) (fun i => [(7, .int .i64 i), (6, .int .i64 n), (5, .slice A n c), (0, .slice A n c)]) (fun _ => []) 0 ⟨by omega, fun j _ h => absurd h (by omega)⟩ (fun a w hs => J6 hs) ?_
 rintro i ⟨hi, q⟩
 by_cases hlt : i < n
 ·have l : ks[i]? = some ks[i] := aA (by omega)
  generalize ks[i] = t at l
  obtain ⟨ad, x, rfl, hm, ho, y⟩ := v i t l
  have p := z t (aB l)
  have hr : (i : Int).tmod 2 = ((i % 2 : Nat) : Int) := rfl
  have f := fun w μc hw (hle : MLe μ μc) => rT t x w μc hw (y.mono hle) p.1 p.2
  by_cases d : DF i bR t
  ·have g : ∀ (j : Nat) (t : T), j < i + 1 → ks[j]? = some t → DF j bR t := fun j t' hj ht => by
    rcases cY j i with h | h
    ·exact q j t' h ht
    ·obtain rfl : j = i := by omega
     rw [l] at ht
     cases ht
     exact d
   unfold DF at d
   by_cases h2 : i % 2 = 0
   ·rw [if_pos h2] at d
    try repeat' (first | refine KO ?_ | (refine KV (b := by first | exact U1 i | exact U4 hm) (c := ?_)) | refine KZ ?_ | refine NB fun b => ?_)
    all_goals first
     | exact J2 (i + 1) ⟨by omega, g⟩ (by omega)
     | (exfalso; omega)
   ·rw [if_neg h2] at d
    rw [d] at f
    try repeat' (first | refine KO ?_ | ((with_reducible apply C1); exact rfl; exact EN; exact fun w μc hw o => f w μc hw o.le) | (refine KV (b := by first | exact U1 i | exact U4 hm) (c := ?_)) | refine KZ ?_ | refine NB fun b => ?_)
    all_goals first
     | exact J2 (i + 1) ⟨by omega, g⟩ (by omega)
     | (exfalso; omega)
  ·rw [uM fun h => d (h.2 i t l)]
   unfold DF at d
   by_cases h2 : i % 2 = 0
   ·rw [if_pos h2] at d
    try repeat' (first | refine KO ?_ | (refine KV (b := by first | exact U1 i | exact U4 hm) (c := ?_)) | refine KZ ?_ | refine NB fun b => ?_)
    all_goals first
     | exact aJ rfl rfl rfl
     | (exfalso; omega)
   ·rw [if_neg h2] at d
    rw [Bool.not_eq_true _ |>.mp d] at f
    try repeat' (first | refine KO ?_ | ((with_reducible apply C1); exact rfl; exact EN; exact fun w μc hw o => f w μc hw o.le) | (refine KV (b := by first | exact U1 i | exact U4 hm) (c := ?_)) | refine KZ ?_ | refine NB fun b => ?_)
    all_goals first
     | exact aJ rfl rfl rfl
     | (exfalso; omega)
 ·obtain rfl : i = n := by omega
  have hr : (i : Int).tmod 2 = ((i % 2 : Nat) : Int) := rfl
  have hg : mJ bR ks = decide ((i : Int).tmod 2 = 1) := by
   by_cases h : i % 2 = 1
   ·rw [BQ ⟨by rw [r]; exact h, fun j t hj => q j t (by have := (List.getElem?_eq_some_iff.1 hj).1; omega) hj⟩]
    symm
    rw [decide_eq_true_eq]
    omega
   ·rw [uM fun hf => h (by rw [← r]; exact hf.1)]
    symm
    rw [decide_eq_false_iff_not]
    omega
  rw [hg]
  try repeat' (refine KZ ?_)
  exact aJ rfl rfl rfl
structure ChS where
 bb : Nat
 t : T
 u : Value
theorem YF (ks : List T) (A : Option Addr) (n c : Nat) (w : World) (μ : Mem) (hμ : MOk μ w) (hk : KR μ ks (.slice A n c)) (ae : ks.length = n) (hn : n ≤ 100000) (r : ∀ k ∈ ks, T.size k ≤ 100000 ∧ Sh' k) :
 aV 129 #[.slice A n c] w (.bool (rU ks)) := by
 refine aE (args := [.slice A n c]) Tryz.func129 rfl Tryz.ntmps129 (by simp) hμ ?_
 by_cases h1 : n = 1
 ·subst h1
  obtain ⟨t0, rfl⟩ := List.length_eq_one_iff.1 ae
  obtain ⟨A', c', e, _, g⟩ := hk.form
  cases e
  obtain ⟨ad, x, rfl, hm, ho, y⟩ := g 0 t0 rfl
  have o := r t0 (aR.2 rfl)
  have hg : rU [t0] = chB t0 := rfl
  rw [hg]
  have d := fun w μc hw (hle : MLe μ μc) => uR t0 x w μc hw (y.mono hle) o.1 (o.2.s)
  cases hl : gU t0
  ·rw [AH (GX hl)]
   rw [hl] at d
   try repeat' (first | refine KO ?_ | ((with_reducible apply C1); exact rfl; exact EN; exact fun w μc hw f => d w μc hw f.le) | (refine KV (b := by first | exact U1 0 | exact U4 hm) (c := ?_)))
   all_goals exact aJ rfl rfl rfl
  ·rw [hl] at d
   generalize l : chB t0 = B
   try repeat' (first | refine KO ?_ | ((with_reducible apply C1); exact rfl; exact EN; exact fun w μc hw f => d w μc hw f.le) | (refine KV (b := by first | exact U1 0 | exact U4 hm) (c := ?_)) | refine KZ ?_ | refine NB fun b => ?_)
   refine bW (ι := ChS) (fun j => chB j.t = B ∧ KR μ j.t.kids j.u ∧ j.t.size ≤ 100000 ∧ Sh' j.t) (fun j => j.t.size) (fun _ => μ) (fun j => [(3, .pointer (some ⟨j.bb, 0, none⟩))]) (fun j => [.inl ⟨j.bb, 24, 6, idx 0 (aY j.t j.u)⟩]) ⟨b, t0, x⟩ ⟨l, y, o⟩ (fun a w hs => J5 hs) ?_
   clear d hl l o y ho hm g hk r
   rintro ⟨bb, t, u⟩ ⟨l, q, z, v⟩
   dsimp only at l q z v ⊢
   have ai := q.one
   obtain ⟨A2, c2, rfl, ah, g⟩ := q.form
   have hlen := eL t
   have d := fun w μc hw (hle : MLe μ μc) => uR t _ w μc hw (q.mono hle) z v.s
   cases hl : gU t
   ·rw [AH (GX hl)] at l
    subst l
    rw [hl] at d
    try repeat' (first | refine KZ ?_ | ((with_reducible apply C1); exact rfl; exact EN; exact fun w μc hw f => d w μc hw f.le))
    all_goals exact aJ rfl rfl rfl
   ·rw [hl] at d
    by_cases p : t.n = 1
    ·rw [NL (.one hl p)] at l
     subst l
     try repeat' (first | refine KZ ?_ | ((with_reducible apply C1); exact rfl; exact EN; exact fun w μc hw f => d w μc hw f.le))
     all_goals exact aJ rfl rfl rfl
    ·by_cases h0 : t.kids.length = 0
     ·rw [AH (aG2 p (by rw [List.getElem?_eq_none_iff]; omega))] at l
      subst l
      try repeat' (first | refine KZ ?_ | ((with_reducible apply C1); exact rfl; exact EN; exact fun w μc hw f => d w μc hw f.le))
      all_goals exact aJ rfl rfl rfl
     ·have i : t.kids[0]? = some t.kids[0] := aA (by omega)
      generalize t.kids[0] = k at i
      obtain ⟨ad2, x2, rfl, af, aj, ab⟩ := g 0 k i
      have r := T.fN i
      have ag : chB k = B := by
       by_cases hc : oV k
       ·rw [NL hc, ← l, NL ((PQ hl p i).2 hc)]
       ·rw [AH hc, ← l, AH fun h => hc ((PQ hl p i).1 h)]
      have aa := v.kid (aB i)
      try repeat' (first | refine KO ?_ | ((with_reducible apply C1); exact rfl; exact EN; exact fun w μc hw f => d w μc hw f.le) | (refine KV (b := by first | exact U1 0 | exact U4 af) (c := ?_)) | refine KZ ?_ | refine NB fun b => ?_)
      all_goals first
       | exact J2 ⟨_, k, x2⟩ ⟨ag, ab, (by show k.size ≤ 100000; omega), aa⟩ r
       | (exfalso; omega)
 ·have hg : rU ks = false := by
   unfold rU
   split
   ·exact absurd ae.symm h1
   ·rfl
  rw [hg]
  try repeat' (refine KZ ?_)
  all_goals exact aJ rfl rfl rfl
end
section
open Go.RowKit Go.Vcg
theorem bV.nQ {μ : Mem} {vs : List Value} {ps : List (T → Bool)} (h : bV μ vs ps) : ∀ v ∈ vs, ∃ (f : FuncId) (cap : List Value), v = .func (.func f) #[] cap.toArray := fun v hv => by
 obtain ⟨i, hi⟩ := List.mem_iff_getElem?.1 hv
 have hlt := (List.getElem?_eq_some_iff.1 hi).1
 have a : i < ps.length := by rw [← h.1]; exact hlt
 exact (h.2 i v ps[i] hi (aA a)).form
def Rws (μ : Mem) (parts : List (Value × Int)) (rows : List ((T → Bool) × Int)) : Prop := parts.length = rows.length ∧ ∀ (i : Nat) (x : Value × Int) (y : (T → Bool) × Int), parts[i]? = some x → rows[i]? = some y → x.2 = y.2 ∧ Cls μ x.1 y.1
theorem Rws.nil (μ : Mem) : Rws μ [] [] := ⟨rfl, fun i x y h => by simp at h⟩
theorem Rws.cons {μ : Mem} {v : Value} {p : T → Bool} {m : Int} {ps : List (Value × Int)} {rs : List ((T → Bool) × Int)} (h : Cls μ v p) (hr : Rws μ ps rs) : Rws μ ((v, m) :: ps) ((p, m) :: rs) :=
 ⟨by simp [hr.1], fun i x y b a => by
   cases i with
   | zero => simp at b a; subst b; subst a; exact ⟨rfl, h⟩
   | succ i => exact hr.2 i x y (by simpa using b) (by simpa using a)⟩
theorem Rws.each {μ : Mem} {vs : List Value} {ps : List (T → Bool)} (h : bV μ vs ps) : Rws μ (vs.map fun v => (v, (0 : Int))) (ps.map fun p => (p, (0 : Int))) :=
 ⟨by simp [h.1], fun i x y b a => by
   rw [aN] at b a
   cases hv : vs[i]? with
   | none => rw [hv] at b; cases b
   | some v =>
     cases c : ps[i]? with
     | none => rw [c] at a; cases a
     | some p =>
       rw [hv] at b
       rw [c] at a
       cases b
       cases a
       exact ⟨rfl, h.2 i v p hv c⟩⟩
theorem oD (parts : List (Value × Int)) (rows : List ((T → Bool) × Int)) (ks : List T) (A B : Option Addr) (c m d : Nat) (w : World) (μ : Mem) (hμ : MOk μ w) {n : Nat} (hk : KR μ ks (.slice A n c)) (b : ks.length = n) (hn : n ≤ 100000) (e : Sl pB 2 μ B m parts) (_hl : parts.length = m) (hm : m ≤ 1000) (hr : Rws μ parts rows) (a : ∀ k ∈ ks, T.size k ≤ 100000 ∧ k.s.size ≤ 65536) :
 aV 124 #[.slice A n c, .slice B m d] w (.bool (dK rows ks)) :=
 aCt parts rows ks A B n c m d w μ hμ hk b hn e hm (by rw [← hr.1]; exact e.1) hr.2 a
def eI (ps : List (T → Bool)) : List ((T → Bool) × Int) := ps.map fun p => (p, (0 : Int))
theorem fX (vs : List Value) (ps : List (T → Bool)) (ks : List T) (A B : Option Addr) (c m d : Nat) (w : World) (μ : Mem) (hμ : MOk μ w) {n : Nat} (hk : KR μ ks (.slice A n c)) (b : ks.length = n) (hn : n ≤ 100000) (e : Sl pB 2 μ B m (vs.map fun v => (v, (0 : Int)))) (_hl : vs.length = m) (hm : m ≤ 1000) (hr : bV μ vs ps) (a : ∀ k ∈ ks, T.size k ≤ 100000 ∧ k.s.size ≤ 65536) :
 aV 124 #[.slice A n c, .slice B m d] w (.bool (dK (eI ps) ks)) :=
 oD _ _ ks A B c m d w μ hμ hk b hn e (by simpa using _hl) hm (Rws.each hr) a
theorem iT (μ : Mem) : Cls μ (.func (.func 127) #[] #[]) cW := Cls.of EK (by kernel_rfl) μ
theorem bX (μ : Mem) : Cls μ (.func (.func 121) #[] #[]) bR := Cls.of rT (by kernel_rfl) μ
theorem fP (μ : Mem) : Cls μ (.func (.func 131) #[] #[]) fJ := Cls.of HD (by kernel_rfl) μ
theorem vZ (μ : Mem) : Cls μ (.func (.func 126) #[] #[]) iE := Cls.of EL (by kernel_rfl) μ
theorem UL (μ : Mem) : Cls μ (.func (.func 133) #[] #[]) rX := Cls.of aB1 (by kernel_rfl) μ
theorem KA (μ : Mem) : Cls μ (.func (.func 157) #[] #[]) CK := Cls.of TN (by kernel_rfl) μ
theorem JY (μ : Mem) : Cls μ (.func (.func 158) #[] #[]) zJ := Cls.of QP (by kernel_rfl) μ
theorem JZ (μ : Mem) : Cls μ (.func (.func 159) #[] #[]) zU := Cls.of SM (by kernel_rfl) μ
theorem NJ (μ : Mem) : Cls μ (.func (.func 160) #[] #[]) nO := Cls.of WN (by kernel_rfl) μ
def tR : T → Bool := eiT [cW, ofT [63]]
def kG (t : T) : Bool :=
 if t.op = 60 then dK [(eiT [tR, ofT [40]], 2), (ofT [64], 1)] t.kids
 else if t.op = 61 then dK [(ofT [62], 2), (ofT [64], 1)] t.kids
 else if t.op = 62 then dK (eI [pL t, tR]) t.kids
 else if t.op = 63 then dK (eI [cW, bR]) t.kids
 else if t.op = 64 then dK (eI [cW]) t.kids
 else false
attribute [local irreducible] dK G GC GQ GA eN Calls IntKind.wrap Int.decLt Int.decLe
theorem KT (t : T) (u : Value) (w : World) (μ : Mem) (hμ : MOk μ w) (hk : KR μ t.kids u) (hs : t.size ≤ 100000) (z : ∀ k ∈ t.kids, T.size k ≤ 100000 ∧ k.s.size ≤ 65536) :
 aV 130 #[.agg (aY t u).toArray] w (.bool (kG t)) := by
 have ho := hk.one
 obtain ⟨A, c, rfl, au, -⟩ := hk.form
 have hlen := eL t
 have av : ∀ {μc : Mem}, MLe μ μc → KR μc t.kids (.slice A t.kids.length c) := fun h => hk.mono h
 refine aE (args := [.agg (aY t (.slice A t.kids.length c)).toArray]) Tryz.func130 rfl Tryz.ntmps130 (by simp) hμ ?_
 unfold kG
 by_cases ao : t.op = 60
 ·rw [if_pos ao]
  try repeat' (first | refine KO ?_ | (refine CF 122 ?_; (fail_if_success (have := d)); (with_reducible apply dA); exact rfl; intro μsa j g; (with_reducible apply bK); (iterate 3 exact rfl); exact EN; exact fun w hw => dZ [63] _ _ _ w _ hw (cI g rfl (by simp) (by repeat first | exact bZ | refine bH rfl ?_)) (by omega); rintro va μa p d; obtain ⟨fa, capa, rfl⟩ := Cls.form d) | (refine CF 120 ?_; (fail_if_success (have := e)); (with_reducible apply dA); exact rfl; intro μsi i f; (with_reducible apply bK); (iterate 3 exact rfl); exact EN; exact fun w hw => iX [.func (.func 127) #[] #[], .func (.func fa) #[] capa.toArray] [cW, ofT [63]] _ _ _ w _ hw (cI f rfl (by simp) (by repeat first | exact bZ | refine bH rfl ?_)) (bV.cons (iT _) (bV.cons (Cls.mono d (by (repeat assumption))) (bV.nil _))) (by omega); rintro vi μi o e; obtain ⟨fi, capi, rfl⟩ := Cls.form e) | (refine CF 122 ?_; (fail_if_success (have := r)); (with_reducible apply dA); exact rfl; intro μsq ae y; (with_reducible apply bK); (iterate 3 exact rfl); exact EN; exact fun w hw => dZ [40] _ _ _ w _ hw (cI y rfl (by simp) (by repeat first | exact bZ | refine bH rfl ?_)) (by omega); rintro vq μq ai r; obtain ⟨fq, capq, rfl⟩ := Cls.form r) | (refine CF 122 ?_; (fail_if_success (have := q)); (with_reducible apply dA); exact rfl; intro μsr ad x; (with_reducible apply bK); (iterate 3 exact rfl); exact EN; exact fun w hw => dZ [64] _ _ _ w _ hw (cI x rfl (by simp) (by repeat first | exact bZ | refine bH rfl ?_)) (by omega); rintro vr μr ah q; obtain ⟨fr, capr, rfl⟩ := Cls.form q) | (refine CF 120 ?_; (fail_if_success (have := af)); (with_reducible apply dA); exact rfl; intro μse ap ag; (with_reducible apply bK); (iterate 3 exact rfl); exact EN; exact fun w hw => iX [.func (.func fi) #[] capi.toArray, .func (.func fq) #[] capq.toArray] [tR, ofT [40]] _ _ _ w _ hw (cI ag rfl (by simp) (by repeat first | exact bZ | refine bH rfl ?_)) (bV.cons (Cls.mono e (by (repeat first | assumption | refine MLe.trans ?_ ‹MLe _ _›))) (bV.cons (Cls.mono r (by (repeat assumption))) (bV.nil _))) (by omega); rintro ve μe ar af; obtain ⟨fe, cape, rfl⟩ := Cls.form af) | ((with_reducible apply F1 124); exact rfl; exact EN; (exact fun w μc hw a => by have l := a.le; exact oD [(.func (.func fe) #[] cape.toArray, 2), (.func (.func fr) #[] capr.toArray, 1)] [(eiT [tR, ofT [40]], 2), (ofT [64], 1)] t.kids _ _ _ _ _ w μc hw (KR.mono (by (repeat first | assumption | refine MLe.trans ?_ ‹MLe _ _›)) hk) rfl (by omega) (cI a.hd rfl (by simp) (by repeat first | exact bZ | refine bH rfl ?_)) rfl (by decide) (Rws.cons (Cls.mono af (by (repeat first | assumption | refine MLe.trans ?_ ‹MLe _ _›))) (Rws.cons (Cls.mono q (by (repeat assumption))) (Rws.nil _))) z)) | refine KZ ?_ | refine NB fun b => ?_)
  all_goals exact aJ rfl rfl rfl
 rw [if_neg ao]
 by_cases an : t.op = 61
 ·rw [if_pos an]
  try repeat' (first | refine KO ?_ | (refine CF 122 ?_; (fail_if_success (have := d)); (with_reducible apply dA); exact rfl; intro μsa j g; (with_reducible apply bK); (iterate 3 exact rfl); exact EN; exact fun w hw => dZ [63] _ _ _ w _ hw (cI g rfl (by simp) (by repeat first | exact bZ | refine bH rfl ?_)) (by omega); rintro va μa p d; obtain ⟨fa, capa, rfl⟩ := Cls.form d) | (refine CF 120 ?_; (fail_if_success (have := e)); (with_reducible apply dA); exact rfl; intro μsi i f; (with_reducible apply bK); (iterate 3 exact rfl); exact EN; exact fun w hw => iX [.func (.func 127) #[] #[], .func (.func fa) #[] capa.toArray] [cW, ofT [63]] _ _ _ w _ hw (cI f rfl (by simp) (by repeat first | exact bZ | refine bH rfl ?_)) (bV.cons (iT _) (bV.cons (Cls.mono d (by (repeat assumption))) (bV.nil _))) (by omega); rintro vi μi o e; obtain ⟨fi, capi, rfl⟩ := Cls.form e) | (refine CF 122 ?_; (fail_if_success (have := r)); (with_reducible apply dA); exact rfl; intro μsq ae y; (with_reducible apply bK); (iterate 3 exact rfl); exact EN; exact fun w hw => dZ [62] _ _ _ w _ hw (cI y rfl (by simp) (by repeat first | exact bZ | refine bH rfl ?_)) (by omega); rintro vq μq ai r; obtain ⟨fq, capq, rfl⟩ := Cls.form r) | (refine CF 122 ?_; (fail_if_success (have := q)); (with_reducible apply dA); exact rfl; intro μsr ad x; (with_reducible apply bK); (iterate 3 exact rfl); exact EN; exact fun w hw => dZ [64] _ _ _ w _ hw (cI x rfl (by simp) (by repeat first | exact bZ | refine bH rfl ?_)) (by omega); rintro vr μr ah q; obtain ⟨fr, capr, rfl⟩ := Cls.form q) | ((with_reducible apply F1 124); exact rfl; exact EN; (exact fun w μc hw a => by have l := a.le; exact oD [(.func (.func fq) #[] capq.toArray, 2), (.func (.func fr) #[] capr.toArray, 1)] [(ofT [62], 2), (ofT [64], 1)] t.kids _ _ _ _ _ w μc hw (KR.mono (by (repeat first | assumption | refine MLe.trans ?_ ‹MLe _ _›)) hk) rfl (by omega) (cI a.hd rfl (by simp) (by repeat first | exact bZ | refine bH rfl ?_)) rfl (by decide) (Rws.cons (Cls.mono r (by (repeat first | assumption | refine MLe.trans ?_ ‹MLe _ _›))) (Rws.cons (Cls.mono q (by (repeat assumption))) (Rws.nil _))) z)) | refine KZ ?_ | refine NB fun b => ?_)
  all_goals exact aJ rfl rfl rfl
 rw [if_neg an]
 by_cases al : t.op = 62
 ·rw [if_pos al]
  try repeat' (first | refine KO ?_ | (refine CF 122 ?_; (fail_if_success (have := d)); (with_reducible apply dA); exact rfl; intro μsa j g; (with_reducible apply bK); (iterate 3 exact rfl); exact EN; exact fun w hw => dZ [63] _ _ _ w _ hw (cI g rfl (by simp) (by repeat first | exact bZ | refine bH rfl ?_)) (by omega); rintro va μa p d; obtain ⟨fa, capa, rfl⟩ := Cls.form d) | (refine CF 120 ?_; (fail_if_success (have := e)); (with_reducible apply dA); exact rfl; intro μsi i f; (with_reducible apply bK); (iterate 3 exact rfl); exact EN; exact fun w hw => iX [.func (.func 127) #[] #[], .func (.func fa) #[] capa.toArray] [cW, ofT [63]] _ _ _ w _ hw (cI f rfl (by simp) (by repeat first | exact bZ | refine bH rfl ?_)) (bV.cons (iT _) (bV.cons (Cls.mono d (by (repeat assumption))) (bV.nil _))) (by omega); rintro vi μi o e; obtain ⟨fi, capi, rfl⟩ := Cls.form e) | (refine CF 156 ?_; (fail_if_success (have := aa)); (with_reducible apply bK); (iterate 3 exact rfl); exact EN; exact fun w hw => xJ t _ w _ hw (KR.mono (by (repeat first | assumption | refine MLe.trans ?_ ‹MLe _ _›)) hk); rintro vk μk aq aa; obtain ⟨fk, capk, rfl⟩ := Cls.form aa) | ((with_reducible apply F1 124); exact rfl; exact EN; (exact fun w μc hw a => by have l := a.le; exact fX [.func (.func fk) #[] capk.toArray, .func (.func fi) #[] capi.toArray] [pL t, tR] t.kids _ _ _ _ _ w μc hw (KR.mono (by (repeat first | assumption | refine MLe.trans ?_ ‹MLe _ _›)) hk) rfl (by omega) (eR (enc := pB) (xs := [.func (.func fk) #[] capk.toArray, .func (.func fi) #[] capi.toArray].map fun v => (v, (0 : Int))) a.hd rfl (by simp) rfl) rfl (by decide) (bV.cons (Cls.mono aa (by (repeat assumption))) (bV.cons (Cls.mono e (by (repeat first | assumption | refine MLe.trans ?_ ‹MLe _ _›))) (bV.nil _))) z)) | refine KZ ?_ | ((with_reducible apply F3 125); exact rfl; exact EN; (exact fun w μc hw a => by have l := a.le; exact fY [.func (.func fk) #[] capk.toArray, .func (.func fi) #[] capi.toArray] _ _ _ w μc hw (cI a.hd rfl (by simp) (by repeat first | exact bZ | refine bH rfl ?_)) (bV.nQ (μ := μc) (ps := [pL t, tR]) (bV.cons (Cls.mono aa (by (repeat assumption))) (bV.cons (Cls.mono e (by (repeat first | assumption | refine MLe.trans ?_ ‹MLe _ _›))) (bV.nil _)))) (by omega)); intro v9; (with_reducible apply eU 0); exact rfl; rintro A9 c9 rfl ab) | refine NB fun b => ?_)
  all_goals exact aJ rfl rfl rfl
 rw [if_neg al]
 by_cases ak : t.op = 63
 ·rw [if_pos ak]
  try repeat' (first | refine KO ?_ | (refine CF 122 ?_; (fail_if_success (have := d)); (with_reducible apply dA); exact rfl; intro μsa j g; (with_reducible apply bK); (iterate 3 exact rfl); exact EN; exact fun w hw => dZ [63] _ _ _ w _ hw (cI g rfl (by simp) (by repeat first | exact bZ | refine bH rfl ?_)) (by omega); rintro va μa p d; obtain ⟨fa, capa, rfl⟩ := Cls.form d) | (refine CF 120 ?_; (fail_if_success (have := e)); (with_reducible apply dA); exact rfl; intro μsi i f; (with_reducible apply bK); (iterate 3 exact rfl); exact EN; exact fun w hw => iX [.func (.func 127) #[] #[], .func (.func fa) #[] capa.toArray] [cW, ofT [63]] _ _ _ w _ hw (cI f rfl (by simp) (by repeat first | exact bZ | refine bH rfl ?_)) (bV.cons (iT _) (bV.cons (Cls.mono d (by (repeat assumption))) (bV.nil _))) (by omega); rintro vi μi o e; obtain ⟨fi, capi, rfl⟩ := Cls.form e) | ((with_reducible apply F1 124); exact rfl; exact EN; (exact fun w μc hw a => by have l := a.le; exact fX [.func (.func 127) #[] #[], .func (.func 121) #[] #[]] [cW, bR] t.kids _ _ _ _ _ w μc hw (KR.mono (by (repeat first | assumption | refine MLe.trans ?_ ‹MLe _ _›)) hk) rfl (by omega) (eR (enc := pB) (xs := [.func (.func 127) #[] #[], .func (.func 121) #[] #[]].map fun v => (v, (0 : Int))) a.hd rfl (by simp) rfl) rfl (by decide) (bV.cons (iT _) (bV.cons (bX _) (bV.nil _))) z)) | refine KZ ?_ | ((with_reducible apply F3 125); exact rfl; exact EN; (exact fun w μc hw a => by have l := a.le; exact fY [.func (.func 127) #[] #[], .func (.func 121) #[] #[]] _ _ _ w μc hw (cI a.hd rfl (by simp) (by repeat first | exact bZ | refine bH rfl ?_)) (bV.nQ (μ := μc) (ps := [cW, bR]) (bV.cons (iT _) (bV.cons (bX _) (bV.nil _)))) (by omega)); intro v9; (with_reducible apply eU 0); exact rfl; rintro A9 c9 rfl ab) | refine NB fun b => ?_)
  all_goals exact aJ rfl rfl rfl
 rw [if_neg ak]
 by_cases aj : t.op = 64
 ·rw [if_pos aj]
  try repeat' (first | refine KO ?_ | (refine CF 122 ?_; (fail_if_success (have := d)); (with_reducible apply dA); exact rfl; intro μsa j g; (with_reducible apply bK); (iterate 3 exact rfl); exact EN; exact fun w hw => dZ [63] _ _ _ w _ hw (cI g rfl (by simp) (by repeat first | exact bZ | refine bH rfl ?_)) (by omega); rintro va μa p d; obtain ⟨fa, capa, rfl⟩ := Cls.form d) | (refine CF 120 ?_; (fail_if_success (have := e)); (with_reducible apply dA); exact rfl; intro μsi i f; (with_reducible apply bK); (iterate 3 exact rfl); exact EN; exact fun w hw => iX [.func (.func 127) #[] #[], .func (.func fa) #[] capa.toArray] [cW, ofT [63]] _ _ _ w _ hw (cI f rfl (by simp) (by repeat first | exact bZ | refine bH rfl ?_)) (bV.cons (iT _) (bV.cons (Cls.mono d (by (repeat assumption))) (bV.nil _))) (by omega); rintro vi μi o e; obtain ⟨fi, capi, rfl⟩ := Cls.form e) | ((with_reducible apply F1 124); exact rfl; exact EN; (exact fun w μc hw a => by have l := a.le; exact fX [.func (.func 127) #[] #[]] [cW] t.kids _ _ _ _ _ w μc hw (KR.mono (by (repeat first | assumption | refine MLe.trans ?_ ‹MLe _ _›)) hk) rfl (by omega) (eR (enc := pB) (xs := [.func (.func 127) #[] #[]].map fun v => (v, (0 : Int))) a.hd rfl (by simp) rfl) rfl (by decide) (bV.cons (iT _) (bV.nil _)) z)) | refine KZ ?_ | ((with_reducible apply F3 125); exact rfl; exact EN; (exact fun w μc hw a => by have l := a.le; exact fY [.func (.func 127) #[] #[]] _ _ _ w μc hw (cI a.hd rfl (by simp) (by repeat first | exact bZ | refine bH rfl ?_)) (bV.nQ (μ := μc) (ps := [cW]) (bV.cons (iT _) (bV.nil _))) (by omega)); intro v9; (with_reducible apply eU 0); exact rfl; rintro A9 c9 rfl ab) | refine NB fun b => ?_)
  all_goals exact aJ rfl rfl rfl
 rw [if_neg aj]
 try repeat' (first | refine KO ?_ | (refine CF 122 ?_; (fail_if_success (have := d)); (with_reducible apply dA); exact rfl; intro μsa j g; (with_reducible apply bK); (iterate 3 exact rfl); exact EN; exact fun w hw => dZ [63] _ _ _ w _ hw (cI g rfl (by simp) (by repeat first | exact bZ | refine bH rfl ?_)) (by omega); rintro va μa p d; obtain ⟨fa, capa, rfl⟩ := Cls.form d) | (refine CF 120 ?_; (fail_if_success (have := e)); (with_reducible apply dA); exact rfl; intro μsi i f; (with_reducible apply bK); (iterate 3 exact rfl); exact EN; exact fun w hw => iX [.func (.func 127) #[] #[], .func (.func fa) #[] capa.toArray] [cW, ofT [63]] _ _ _ w _ hw (cI f rfl (by simp) (by repeat first | exact bZ | refine bH rfl ?_)) (bV.cons (iT _) (bV.cons (Cls.mono d (by (repeat assumption))) (bV.nil _))) (by omega); rintro vi μi o e; obtain ⟨fi, capi, rfl⟩ := Cls.form e) | refine KZ ?_ | refine NB fun b => ?_)
 all_goals exact aJ rfl rfl rfl
end
section
open Go.RowKit Go.Vcg
noncomputable def pZ (t : T) : Bool :=
 if t.n = 0 then dK (eI [pL t, bR]) t.kids
 else if t.n = 1 then dK (eI [pL t, CK]) t.kids
 else if t.n = 2 then dK (eI [pL t, zJ]) t.kids
 else if t.n = 5 then dK (eI [pL t, zU]) t.kids
 else if t.n = 3 then dK (eI [nO]) t.kids
 else dK (eI [bR]) t.kids
attribute [local irreducible] dK G GC GQ GA eN Calls IntKind.wrap Int.decLt Int.decLe
theorem aBi (t : T) (u : Value) (w : World) (μ : Mem) (hμ : MOk μ w) (hk : KR μ t.kids u) (hs : t.size ≤ 100000) (g : ∀ k ∈ t.kids, T.size k ≤ 100000 ∧ k.s.size ≤ 65536) :
 aV 123 #[.agg (aY t u).toArray] w (.bool (pZ t)) := by
 have ho := hk.one
 obtain ⟨A, c, rfl, i, -⟩ := hk.form
 have hlen := eL t
 refine aE (args := [.agg (aY t (.slice A t.kids.length c)).toArray]) Tryz.func123 rfl Tryz.ntmps123 (by simp) hμ ?_
 unfold pZ
 by_cases h0 : t.n = 0
 ·rw [if_pos h0]
  try repeat' (first | refine KZ ?_ | refine NB fun b => ?_)
  refine aT 8 _ (by kernel_rfl) rfl (aC aQ) ?_
  all_goals (refine DD 0 ?_; refine DD 1 ?_; refine DD 2 ?_)
  all_goals (refine D3 3 ?_; refine D5 ?_; (refine CF 156 ?_; (fail_if_success (have := d)); (with_reducible apply bK); (iterate 3 exact rfl); exact EN; exact fun w hw => xJ t _ w _ hw (KR.mono (by (repeat exact MLe.refl _)) hk); rintro vk μk h d; obtain ⟨fk, capk, rfl⟩ := Cls.form d); refine D9 ?_)
  all_goals (refine D3 4 ?_; refine D5 ?_; refine NB fun b => ?_; refine D9 ?_)
  all_goals (refine D3 5 ?_; refine D5 ?_; (((with_reducible apply F3 125); exact rfl; exact EN; (exact fun w μc hw a => by have e := a.le; exact fY [.func (.func fk) #[] capk.toArray, .func (.func 121) #[] #[]] _ _ _ w μc hw (cI a.hd rfl (by simp) (by repeat first | exact bZ | refine bH rfl ?_)) (bV.nQ (μ := μc) (ps := [pL t, bR]) (bV.cons (Cls.mono d (by (repeat assumption))) (bV.cons (bX _) (bV.nil _)))) (by omega)); intro v9; (with_reducible apply eU 0); exact rfl; rintro A9 c9 rfl f)); refine D9 ?_)
  all_goals (refine D3 6 ?_; refine D5 ?_; (((with_reducible apply F1 124); exact rfl; exact EN; (exact fun w μc hw a => by have e := a.le; exact fX [.func (.func fk) #[] capk.toArray, .func (.func 121) #[] #[]] [pL t, bR] t.kids _ _ _ _ _ w μc hw (KR.mono (by (repeat first | assumption | refine MLe.trans ?_ ‹MLe _ _›)) hk) rfl (by omega) (eR (enc := pB) (xs := [.func (.func fk) #[] capk.toArray, .func (.func 121) #[] #[]].map fun v => (v, (0 : Int))) a.hd rfl (by simp) rfl) rfl (by decide) (bV.cons (Cls.mono d (by (repeat assumption))) (bV.cons (bX _) (bV.nil _))) g))); refine D9 ?_)
  all_goals (refine DD 7 ?_; refine D8 ?_)
  try repeat' (refine KZ ?_)
  all_goals exact aJ rfl rfl rfl
 rw [if_neg h0]
 by_cases h1 : t.n = 1
 ·rw [if_pos h1]
  try repeat' (first | refine KZ ?_ | refine NB fun b => ?_)
  refine aT 8 _ (by kernel_rfl) rfl (aC aQ) ?_
  all_goals (refine DD 0 ?_; refine DD 1 ?_; refine DD 2 ?_)
  all_goals (refine D3 3 ?_; refine D5 ?_; (refine CF 156 ?_; (fail_if_success (have := d)); (with_reducible apply bK); (iterate 3 exact rfl); exact EN; exact fun w hw => xJ t _ w _ hw (KR.mono (by (repeat exact MLe.refl _)) hk); rintro vk μk h d; obtain ⟨fk, capk, rfl⟩ := Cls.form d); refine D9 ?_)
  all_goals (refine D3 4 ?_; refine D5 ?_; refine NB fun b => ?_; refine D9 ?_)
  all_goals (refine D3 5 ?_; refine D5 ?_; (((with_reducible apply F3 125); exact rfl; exact EN; (exact fun w μc hw a => by have e := a.le; exact fY [.func (.func fk) #[] capk.toArray, .func (.func 157) #[] #[]] _ _ _ w μc hw (cI a.hd rfl (by simp) (by repeat first | exact bZ | refine bH rfl ?_)) (bV.nQ (μ := μc) (ps := [pL t, CK]) (bV.cons (Cls.mono d (by (repeat assumption))) (bV.cons (KA _) (bV.nil _)))) (by omega)); intro v9; (with_reducible apply eU 0); exact rfl; rintro A9 c9 rfl f)); refine D9 ?_)
  all_goals (refine D3 6 ?_; refine D5 ?_; (((with_reducible apply F1 124); exact rfl; exact EN; (exact fun w μc hw a => by have e := a.le; exact fX [.func (.func fk) #[] capk.toArray, .func (.func 157) #[] #[]] [pL t, CK] t.kids _ _ _ _ _ w μc hw (KR.mono (by (repeat first | assumption | refine MLe.trans ?_ ‹MLe _ _›)) hk) rfl (by omega) (eR (enc := pB) (xs := [.func (.func fk) #[] capk.toArray, .func (.func 157) #[] #[]].map fun v => (v, (0 : Int))) a.hd rfl (by simp) rfl) rfl (by decide) (bV.cons (Cls.mono d (by (repeat assumption))) (bV.cons (KA _) (bV.nil _))) g))); refine D9 ?_)
  all_goals (refine DD 7 ?_; refine D8 ?_)
  try repeat' (refine KZ ?_)
  all_goals exact aJ rfl rfl rfl
 rw [if_neg h1]
 by_cases h2 : t.n = 2
 ·rw [if_pos h2]
  try repeat' (first | refine KZ ?_ | refine NB fun b => ?_)
  refine aT 8 _ (by kernel_rfl) rfl (aC aQ) ?_
  all_goals (refine DD 0 ?_; refine DD 1 ?_; refine DD 2 ?_)
  all_goals (refine D3 3 ?_; refine D5 ?_; (refine CF 156 ?_; (fail_if_success (have := d)); (with_reducible apply bK); (iterate 3 exact rfl); exact EN; exact fun w hw => xJ t _ w _ hw (KR.mono (by (repeat exact MLe.refl _)) hk); rintro vk μk h d; obtain ⟨fk, capk, rfl⟩ := Cls.form d); refine D9 ?_)
  all_goals (refine D3 4 ?_; refine D5 ?_; refine NB fun b => ?_; refine D9 ?_)
  all_goals (refine D3 5 ?_; refine D5 ?_; (((with_reducible apply F3 125); exact rfl; exact EN; (exact fun w μc hw a => by have e := a.le; exact fY [.func (.func fk) #[] capk.toArray, .func (.func 158) #[] #[]] _ _ _ w μc hw (cI a.hd rfl (by simp) (by repeat first | exact bZ | refine bH rfl ?_)) (bV.nQ (μ := μc) (ps := [pL t, zJ]) (bV.cons (Cls.mono d (by (repeat assumption))) (bV.cons (JY _) (bV.nil _)))) (by omega)); intro v9; (with_reducible apply eU 0); exact rfl; rintro A9 c9 rfl f)); refine D9 ?_)
  all_goals (refine D3 6 ?_; refine D5 ?_; (((with_reducible apply F1 124); exact rfl; exact EN; (exact fun w μc hw a => by have e := a.le; exact fX [.func (.func fk) #[] capk.toArray, .func (.func 158) #[] #[]] [pL t, zJ] t.kids _ _ _ _ _ w μc hw (KR.mono (by (repeat first | assumption | refine MLe.trans ?_ ‹MLe _ _›)) hk) rfl (by omega) (eR (enc := pB) (xs := [.func (.func fk) #[] capk.toArray, .func (.func 158) #[] #[]].map fun v => (v, (0 : Int))) a.hd rfl (by simp) rfl) rfl (by decide) (bV.cons (Cls.mono d (by (repeat assumption))) (bV.cons (JY _) (bV.nil _))) g))); refine D9 ?_)
  all_goals (refine DD 7 ?_; refine D8 ?_)
  try repeat' (refine KZ ?_)
  all_goals exact aJ rfl rfl rfl
 rw [if_neg h2]
 by_cases h5 : t.n = 5
 ·rw [if_pos h5]
  try repeat' (first | refine KZ ?_ | refine NB fun b => ?_)
  refine aT 8 _ (by kernel_rfl) rfl (aC aQ) ?_
  all_goals (refine DD 0 ?_; refine DD 1 ?_; refine DD 2 ?_)
  all_goals (refine D3 3 ?_; refine D5 ?_; (refine CF 156 ?_; (fail_if_success (have := d)); (with_reducible apply bK); (iterate 3 exact rfl); exact EN; exact fun w hw => xJ t _ w _ hw (KR.mono (by (repeat exact MLe.refl _)) hk); rintro vk μk h d; obtain ⟨fk, capk, rfl⟩ := Cls.form d); refine D9 ?_)
  all_goals (refine D3 4 ?_; refine D5 ?_; refine NB fun b => ?_; refine D9 ?_)
  all_goals (refine D3 5 ?_; refine D5 ?_; (((with_reducible apply F3 125); exact rfl; exact EN; (exact fun w μc hw a => by have e := a.le; exact fY [.func (.func fk) #[] capk.toArray, .func (.func 159) #[] #[]] _ _ _ w μc hw (cI a.hd rfl (by simp) (by repeat first | exact bZ | refine bH rfl ?_)) (bV.nQ (μ := μc) (ps := [pL t, zU]) (bV.cons (Cls.mono d (by (repeat assumption))) (bV.cons (JZ _) (bV.nil _)))) (by omega)); intro v9; (with_reducible apply eU 0); exact rfl; rintro A9 c9 rfl f)); refine D9 ?_)
  all_goals (refine D3 6 ?_; refine D5 ?_; (((with_reducible apply F1 124); exact rfl; exact EN; (exact fun w μc hw a => by have e := a.le; exact fX [.func (.func fk) #[] capk.toArray, .func (.func 159) #[] #[]] [pL t, zU] t.kids _ _ _ _ _ w μc hw (KR.mono (by (repeat first | assumption | refine MLe.trans ?_ ‹MLe _ _›)) hk) rfl (by omega) (eR (enc := pB) (xs := [.func (.func fk) #[] capk.toArray, .func (.func 159) #[] #[]].map fun v => (v, (0 : Int))) a.hd rfl (by simp) rfl) rfl (by decide) (bV.cons (Cls.mono d (by (repeat assumption))) (bV.cons (JZ _) (bV.nil _))) g))); refine D9 ?_)
  all_goals (refine DD 7 ?_; refine D8 ?_)
  try repeat' (refine KZ ?_)
  all_goals exact aJ rfl rfl rfl
 rw [if_neg h5]
 by_cases h3 : t.n = 3
 ·rw [if_pos h3]
  try repeat' (first | refine KZ ?_ | refine NB fun b => ?_)
  refine aT 6 _ (by kernel_rfl) rfl (aC aQ) ?_
  all_goals (refine DD 0 ?_; refine DD 1 ?_; refine D3 2 ?_; refine D5 ?_; refine NB fun b => ?_; refine D9 ?_)
  all_goals (refine D3 3 ?_; refine D5 ?_; (((with_reducible apply F3 125); exact rfl; exact EN; (exact fun w μc hw a => by have e := a.le; exact fY [.func (.func 160) #[] #[]] _ _ _ w μc hw (cI a.hd rfl (by simp) (by repeat first | exact bZ | refine bH rfl ?_)) (bV.nQ (μ := μc) (ps := [nO]) (bV.cons (NJ _) (bV.nil _))) (by omega)); intro v9; (with_reducible apply eU 0); exact rfl; rintro A9 c9 rfl f)); refine D9 ?_)
  all_goals (refine D3 4 ?_; refine D5 ?_; (((with_reducible apply F1 124); exact rfl; exact EN; (exact fun w μc hw a => by have e := a.le; exact fX [.func (.func 160) #[] #[]] [nO] t.kids _ _ _ _ _ w μc hw (KR.mono (by (repeat assumption)) hk) rfl (by omega) (eR (enc := pB) (xs := [.func (.func 160) #[] #[]].map fun v => (v, (0 : Int))) a.hd rfl (by simp) rfl) rfl (by decide) (bV.cons (NJ _) (bV.nil _)) g))); refine D9 ?_)
  all_goals (refine DD 5 ?_; refine D8 ?_)
  try repeat' (refine KZ ?_)
  all_goals exact aJ rfl rfl rfl
 rw [if_neg h3]
 try repeat' (first | refine KZ ?_ | refine NB fun b => ?_)
 refine aT 6 _ (by kernel_rfl) rfl (aC aQ) ?_
 all_goals (refine DD 0 ?_; refine DD 1 ?_; refine D3 2 ?_; refine D5 ?_; refine NB fun b => ?_; refine D9 ?_)
 all_goals (refine D3 3 ?_; refine D5 ?_; (((with_reducible apply F3 125); exact rfl; exact EN; (exact fun w μc hw a => by have e := a.le; exact fY [.func (.func 121) #[] #[]] _ _ _ w μc hw (cI a.hd rfl (by simp) (by repeat first | exact bZ | refine bH rfl ?_)) (bV.nQ (μ := μc) (ps := [bR]) (bV.cons (bX _) (bV.nil _))) (by omega)); intro v9; (with_reducible apply eU 0); exact rfl; rintro A9 c9 rfl f)); refine D9 ?_)
 all_goals (refine D3 4 ?_; refine D5 ?_; (((with_reducible apply F1 124); exact rfl; exact EN; (exact fun w μc hw a => by have e := a.le; exact fX [.func (.func 121) #[] #[]] [bR] t.kids _ _ _ _ _ w μc hw (KR.mono (by (repeat assumption)) hk) rfl (by omega) (eR (enc := pB) (xs := [.func (.func 121) #[] #[]].map fun v => (v, (0 : Int))) a.hd rfl (by simp) rfl) rfl (by decide) (bV.cons (bX _) (bV.nil _)) g))); refine D9 ?_)
 all_goals (refine DD 5 ?_; refine D8 ?_)
 try repeat' (refine KZ ?_)
 all_goals exact aJ rfl rfl rfl
end
end Go.Proofs.YtlllalmkkaolfaaGreatDoor
