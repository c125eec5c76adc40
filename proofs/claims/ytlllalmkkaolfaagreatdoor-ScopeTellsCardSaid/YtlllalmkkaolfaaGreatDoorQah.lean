/- Package early: clash, with, name, walked. -/
import Derived.Test.YtlllalmkkaolfaaGreatDoorQag
set_option maxRecDepth 20000
set_option maxHeartbeats 2000000
namespace Go.Proofs.YtlllalmkkaolfaaGreatDoor
open Go.RowKit Go.Vcg
theorem PO (l : List Int) (r : Int) : decide (r ∈ l) = l.contains r := by rw [List.contains_eq_mem]
attribute [local irreducible] anI mP mkD G GC GQ GA eN Calls IntKind.wrap Int.decLt Int.decLe
theorem TE (f : FuncId) (cap : List Value) (q1 : Int → Bool) (l : List Int) (A : Option Addr) (n c : Nat) (w : World) (μ : Mem) (hμ : MOk μ w) (x : gX Tryz.prog f = true) (y : Sl XR 1 μ A n l) (hn : n ≤ 1000000) (v : ∀ (o : Int) (w : World) (μ' : Mem), MOk μ' w → MLe μ μ' → Calls Tryz.prog f ([Value.int .i64 o] ++ cap).toArray w fun e w' => e = .returned (.bool (q1 o)) ∧ Below w.heap.size w w') :
 aV 179 #[.slice A n c, .func (.func f) #[] cap.toArray] w (.int .i64 (firstT (l.map q1))) := by
 refine aE (args := [.slice A n c, .func (.func f) #[] cap.toArray]) Tryz.func179 rfl Tryz.ntmps179 (by simp) hμ ?_
 have t : l.length = n := y.1
 have z : (l.map q1).length = n := by rw [aH]; exact t
 try repeat' (refine KZ ?_)
 refine bW (ι := Nat) (fun k => k ≤ n ∧ ∀ (j : Nat) (q : Bool), j < k → (l.map q1)[j]? = some q → q = false) (fun k => n - k) (fun _ => μ) (fun k => [(8, .int .i64 k), (7, .int .i64 n), (6, .slice A n c), (0, .slice A n c), (1, .func (.func f) #[] cap.toArray)]) (fun _ => []) 0 ⟨by omega, fun j _ h => absurd h (by omega)⟩ (fun a w hs => J5 hs) ?_
 rintro k ⟨hk, hf⟩
 by_cases hlt : k < n
 ·obtain ⟨ad, o, rfl, ho, hm⟩ := y.get hlt
  have g : (l.map q1)[k]? = some (q1 o) := by rw [aN, ho]; rfl
  have hc := fun w μc hw (hle : MLe μ μc) => v o w μc hw hle
  generalize q1 o = q at g hc
  have i : q = false → ∀ (j : Nat) (q : Bool), j < k + 1 → (l.map q1)[j]? = some q → q = false := fun h j p u r => by
   rcases cY j k with h1 | h1
   ·exact hf j p h1 r
   ·obtain rfl : j = k := by omega
    rw [g] at r
    cases r
    exact h
  cases q
  ·have hb := i rfl
   try repeat' (first | refine KO ?_ | ((with_reducible apply C1); exact rfl; exact EN; exact fun w μc hw d => hc w μc hw d.le) | (refine KV (b := by first | exact U1 k | exact U3 (hm.at 0 rfl)) (c := ?_)) | refine KZ ?_)
   all_goals exact J2 (k + 1) ⟨by omega, hb⟩ (by omega)
  ·try repeat' (first | refine KO ?_ | ((with_reducible apply C1); exact rfl; exact EN; exact fun w μc hw d => hc w μc hw d.le) | (refine KV (b := by first | exact U1 k | exact U3 (hm.at 0 rfl)) (c := ?_)))
   all_goals refine aJ rfl rfl ?_
   all_goals rw [qR g hf]
 ·try repeat' (refine KZ ?_)
  refine aJ rfl rfl ?_
  rw [nU (fun j q u => hf j q (by have := (List.getElem?_eq_some_iff.1 u).1; omega) u)]
theorem JT (f : FuncId) (cap : List Value) (q1 : Int → Bool) (l : List Int) (v : Value) (w : World) (μ : Mem) (hμ : MOk μ w) (b : gX Tryz.prog f = true) (hv : IsV μ v l) (hn : l.length ≤ 1000000) (d : ∀ (o : Int) (w : World) (μ' : Mem), MOk μ' w → MLe μ μ' → Calls Tryz.prog f ([Value.int .i64 o] ++ cap).toArray w fun e w' => e = .returned (.bool (q1 o)) ∧ Below w.heap.size w w') :
 aV 174 #[v, .func (.func f) #[] cap.toArray] w (.bool (l.any q1)) := by
 obtain ⟨A, c, rfl, g, -⟩ := hv
 refine aE (args := [.slice A l.length c, .func (.func f) #[] cap.toArray]) Tryz.func174 rfl Tryz.ntmps174 (by simp) hμ ?_
 have h : decide (0 ≤ firstT (l.map q1)) = l.any q1 := by rw [pA, hH]; rfl
 rw [← h]
 try repeat' (first | refine KO ?_ | ((with_reducible apply C1); exact rfl; exact EN; exact fun w μc hw a => TE f cap q1 l A l.length c w μc hw b (g.mono a.le) hn (fun o w μ' h2 h3 => d o w μ' h2 (a.le.trans h3))))
 exact aJ rfl rfl rfl
theorem UM (r : Int) (d : ED) (dv : Value) (bc : Nat) (w : World) (μ : Mem) (hμ : MOk μ w) (hd : IsV μ dv d.ins) (hl : d.ins.length ≤ 100000) (hm : eM μ ⟨bc, 0, none⟩ (pX (d, dv))) :
 Calls Tryz.prog 175 ([Value.int .i64 r] ++ [Value.pointer (some ⟨bc, 0, none⟩)]).toArray w fun e w' => e = .returned (.bool (d.ins.contains r)) ∧ Below w.heap.size w w' := by
 refine aE (args := [.int .i64 r, .pointer (some ⟨bc, 0, none⟩)]) Tryz.func175 rfl Tryz.ntmps175 (by simp) hμ ?_
 have ho := hd.one
 rw [← PO]
 obtain ⟨A, c, rfl, h, -⟩ := hd
 have f : eM μ ⟨bc, 0, none⟩ [.bool d.lex, .slice A d.ins.length c, .int .i64 d.par, .bool d.twice] := hm
 have g : oA μ ⟨bc, 0 + 1, none⟩ (.slice A d.ins.length c) := f 1 _ rfl
 try repeat' (first | refine KO ?_ | ((with_reducible apply C1); exact rfl; exact EN; exact fun w μc hw a => AG r d.ins A d.ins.length c w μc hw (h.mono a.le) hl) | (refine KV (b := by ((with_reducible apply jR); exact rfl; exact rfl; exact g)) (c := ?_)))
 exact aJ rfl rfl rfl
theorem HH {b t sz : Nat} {cs : bP} {vs : List Value} {μ : Mem} (h : Bk.sh (.inl ⟨b, t, sz, cs⟩) μ) (hv : ∀ j v, vs[j]? = some v → lk cs j = some v) : eM μ ⟨b, 0, none⟩ vs := fun j v a => by
 obtain ⟨arr, h1, _, h3⟩ := h
 have e : Addr.add ⟨b, 0, none⟩ j = ⟨b, j, none⟩ := by cases j <;> simp [Addr.add]
 rw [e]
 exact ⟨arr, t, (0, 0), h1, rfl, h3 j v (hv j v a)⟩
theorem rA {vs : List Value} {j : Nat} {v : Value} (h : vs[j]? = some v) : lk (idx 0 vs) j = some v := by have h2 := MI vs 0 j v h; rwa [bB] at h2
theorem YD (a d : ED) (av dv : Value) (w : World) (μ : Mem) (hμ : MOk μ w) (f : IsV μ av a.ins) (hd : IsV μ dv d.ins) (h : a.ins.length ≤ 100000) (hl : d.ins.length ≤ 100000) :
 aV 165 #[.agg (pX (a, av)).toArray, .agg (pX (d, dv)).toArray] w (.bool (nV a d)) := by
 have oa := f.one
 have od := hd.one
 refine aE (args := [.agg (pX (a, av)).toArray, .agg (pX (d, dv)).toArray]) Tryz.func165 rfl Tryz.ntmps165 (by simp) hμ ?_
 have e := fun (b : Nat) (w : World) (μc : Mem) (hw : MOk μc w) (hle : MLe μ μc) (hc : eM μc ⟨b, 0, none⟩ (pX (d, dv))) => JT 175 [.pointer (some ⟨b, 0, none⟩)] (fun r => d.ins.contains r) a.ins av w μc hw (by kernel_rfl) (f.mono hle) (by omega) (fun o w μ' h2 h3 => UM o d dv b w μ' h2 ((hd.mono hle).mono h3) hl (hc.mono h3))
 unfold nV
 generalize (a.ins.any fun r => d.ins.contains r) = q at e ⊢
 try repeat' (first | refine KO ?_ | refine K3 174 (fun w μc hw c => e _ w μc hw c.le (HH c.hd (fun j v g => rA g))) ?_ | refine KZ ?_ | refine NB fun b => ?_ | (refine KB ?_ ?_ <;> intro i))
 all_goals refine aJ rfl rfl ?_
 all_goals simp_all
theorem uL (xb mb : Nat) (p : EP) (pv : Value) (s : ES) (μ : Mem) (i : PV μ p pv) (hb : p.regs.length ≤ 100000) (hs : s.regs ≤ 1000000) :
 CEr 100 [.pointer (some ⟨xb, 0, none⟩), pv] xb mb s (gA s) μ (fun μ' v => PV μ' (mU p s) v) := by
 intro w fs hμ f h
 have e := dJ h.diff
 obtain ⟨r, lb, lo, mi, rfl, hr, h2, h3, h4⟩ := i
 have o1 := hr.one
 have o2 := h2.one
 have o3 := h3.one
 have o4 := h4.one
 have e1 := aF4 p.regs
 have e2 := aEn p.regs
 refine cC (args := [.pointer (some ⟨xb, 0, none⟩), .agg (hZ p r lb lo mi).toArray]) Tryz.func100 rfl Tryz.ntmps100 (by simp) hμ h ?_
 refine kV (aAx xb mb s fs) ?_
 try repeat' (first | refine KZ ?_ | refine NB fun b => ?_)
 refine aT 13 _ (by kernel_rfl) rfl (dG (dG (aC aQ))) ?_
 all_goals (refine DD 0 ?_; refine DD 1 ?_; refine DD 4 ?_; refine DD 5 ?_; refine DD 6 ?_; refine DD 7 ?_)
 refine iF 2 8 (by kernel_rfl) ?dr1_2 ?dr1_8
 case' dr1_2 =>
  (((with_reducible apply iW); (iterate 4 exact rfl); (((with_reducible apply wP); exact rfl; (repeat first | with_reducible exact fO | with_reducible apply oK); exact rfl))))
  refine iF 3 8 (by kernel_rfl) ?dr2_3 ?dr2_8
  case' dr2_3 =>
   (refine D5 ?_; (with_reducible apply F3 140); exact rfl; exact EN; exact fun w μc hw d => PP w μc hw p.regs r (hr.mono d.le) (by omega); intro vr; refine D9 ?_)
   all_goals (refine D3 8 ?_; refine D5 ?_; refine NB fun b => ?_; refine D9 ?_)
   all_goals (refine D3 9 ?_; refine D5 ?_; refine AI (k := fun g cap hcap => ?_); refine D9 ?_)
   all_goals (refine DD 10 ?_; refine DD 11 ?_; refine D3 12 ?_; refine D5 ?_; refine Y0 ?_; refine D9 ?_; refine D8 ?_)
  case' dr2_8 =>
   (refine D5 ?_; refine NB fun b => ?_; refine D9 ?_)
   all_goals (refine D3 3 ?_; refine D5 ?_; (with_reducible apply F3 140); exact rfl; exact EN; exact fun w μc hw d => PP w μc hw p.regs r (hr.mono d.le) (by omega); intro vr; refine D9 ?_)
   all_goals (refine D3 9 ?_; refine D5 ?_; refine AI (k := fun g cap hcap => ?_); refine D9 ?_)
   all_goals (refine DD 10 ?_; refine DD 11 ?_; refine D3 12 ?_; refine D5 ?_; refine Y0 ?_; refine D9 ?_; refine D8 ?_)
 case' dr1_8 =>
  (refine D5 ?_; refine NB fun b => ?_; refine D9 ?_)
  all_goals (refine D3 2 ?_; (with_reducible apply iW); (iterate 4 exact rfl); (((with_reducible apply wP); exact rfl; (repeat first | with_reducible exact fO | with_reducible apply oK); exact rfl)))
  all_goals (refine D3 3 ?_; refine D5 ?_; (with_reducible apply F3 140); exact rfl; exact EN; exact fun w μc hw d => PP w μc hw p.regs r (hr.mono d.le) (by omega); intro vr; refine D9 ?_)
  all_goals (refine D3 9 ?_; refine D5 ?_; refine AI (k := fun g cap hcap => ?_); refine D9 ?_)
  all_goals (refine DD 10 ?_; refine DD 11 ?_; refine D3 12 ?_; refine D5 ?_; refine Y0 ?_; refine D9 ?_; refine D8 ?_)
 all_goals try repeat' (refine KZ ?_)
 all_goals first
  | (refine AT rfl ?_; intro μ4 a c; have hv := IsV.mM (xs := p.regs ++ [((s.regs + 1 : Nat) : Int)]) c (by simp) (by rw [cG]; rfl))
  | (refine AS rfl ?_; intro μ4 a c; have hv := IsV.mM (xs := p.regs ++ [((s.regs + 1 : Nat) : Int)]) c (by simp) (by rw [cG]; rfl))
 all_goals refine gL (L' := .inl ⟨_, 101, 12, idx 0 (hZ (mU p s) (.slice (some ⟨g, 0, none⟩) (p.regs.length + 1) cap) lb lo mi)⟩ :: EB xb mb (gA s) fs) (by unfold EB; exact dR (.cells PU) (rV (.cells PU) (rV (.refl _) (bS _ (bS _ (fL _)))))) ?_
 all_goals exact OL 1 fs e rfl (RG 0 rfl rfl rfl rfl rfl) rfl rfl (fun μ' hle => ⟨⟨f.1, (f.mono (a.trans hle)).2⟩, _, lb, lo, mi, rfl, hv.mono hle, h2.mono (a.trans hle), h3.mono (a.trans hle), h4.mono (a.trans hle)⟩)
end Go.Proofs.YtlllalmkkaolfaaGreatDoor
namespace Go.Vcg
open Go.RowKit
section
variable {P : Program} {μ : Mem} {l : bP} {L : List Bk} {ty : TypeId} {pos : String} {af : Array Edge} {gd : Option (Nat × Bool)} {ds : Option Nat}
theorem EJ {p q r : Operand} {t : TypeId} {b b' : ByteArray} {j i : Int} (k m : Nat) (he : b.extract k m = b') (ht : P.underlying t = some .string) (c : ev l p = some (.string b)) (d : ev l q = some (.int .i64 j)) (e : j = (k : Int)) (a : ev l r = some (.int .i64 i)) (hi : i = (m : Int)) (hk : k ≤ m) (hm : m ≤ b.size) :
 Val P μ l L ⟨ds, .slice t p (some q) (some r) none, ty, pos, af, gd⟩ (.string b') := by
 rw [← he]
 exact UX k m ht c d e a hi hk hm
end
end Go.Vcg
namespace Go.Proofs.YtlllalmkkaolfaaGreatDoor
open Go.RowKit Go.Vcg Ou
theorem OR (l : List UInt8) : (ofB l).size = l.length := by simp [ofB, ByteArray.size]
theorem NM (l : List UInt8) : bl (ofB l) = l := by simp [bl, ofB]
theorem aG4 {s : ByteArray} {i : Nat} (h : i < s.size) : ∃ b, (bl s)[i]? = some b ∧ bAt s i = b.toNat := by
 have : i < (bl s).length := by rw [BF]; exact h
 exact ⟨(bl s)[i], aA this, aKb (aA this)⟩
theorem uS (x : Int) (c : UInt8) (b : Bool) (a : x = c.toNat) (hb : Iq.mO c = b) (w : World) (μ : Mem) (hμ : MOk μ w) : aV 176 #[.int .u8 x] w (.bool b) := by
 subst hb
 exact SP x c a w μ hμ
theorem sU (c : UInt8) : Iq.pO c = true ↔ Iq.mO c = true ∨ (48 ≤ (c.toNat : Int) ∧ (c.toNat : Int) ≤ 57) := by
 unfold Iq.pO
 rw [Bool.or_eq_true, aS, decide_eq_true_eq, decide_eq_true_eq]
 exact or_congr Iff.rfl (by omega)
theorem MF {l : List UInt8} {j : Nat} {c : UInt8} (a : j ≤ (lP l).length) (h0 : j = 0 → Iq.mO c = true) (hc : l[j]? = some c) (h : Iq.pO c = true) (hs : lP l ≠ [] ∨ j = 0) : j + 1 ≤ (lP l).length := by
 cases l with
 | nil => simp at hc
 | cons x r =>
   unfold lP at a hs ⊢
   dsimp only at a hs ⊢
   cases j with
   | zero =>
     simp at hc
     subst hc
     rw [if_pos (h0 rfl)]
     simp
   | succ j =>
     by_cases b : Iq.mO x = true
     ·rw [if_pos b] at a ⊢
      rw [bG] at hc
      simp only [bF] at a ⊢
      rcases cY j (r.takeWhile Iq.pO).length with h1 | h1
      ·omega
      ·have e : j = (r.takeWhile Iq.pO).length := by omega
       rw [e] at hc
       have := aDt _ _ hc
       rw [h] at this
       cases this
     ·rw [if_neg b] at hs
      rcases hs with hs | hs
      ·exact absurd rfl hs
      ·omega
theorem aBr {l : List UInt8} {j : Nat} (a : j ≤ (lP l).length) (h : l.length ≤ j ∨ ∃ c, l[j]? = some c ∧ Iq.pO c = false) : (lP l).length = j := by
 cases l with
 | nil => simp [lP] at a ⊢; omega
 | cons x r =>
   unfold lP at a ⊢
   dsimp only at a ⊢
   by_cases b : Iq.mO x = true
   ·rw [if_pos b] at a ⊢
    simp only [bF] at a ⊢
    have hle := (kZ (l := r) Iq.pO).length_le
    rcases h with h | ⟨c, hc, h⟩
    ·simp at h
     omega
    ·cases j with
     | zero =>
       simp at hc
       subst hc
       have : Iq.pO x = true := (sU x).2 (.inl b)
       rw [this] at h
       cases h
     | succ j =>
       rw [bG] at hc
       rcases cY j (r.takeWhile Iq.pO).length with h1 | h1
       ·obtain ⟨d, h2, h3⟩ := aDs _ _ h1
        rw [h2] at hc
        cases hc
        rw [h3] at h
        cases h
       ·omega
   ·rw [if_neg b] at a ⊢
    simp at a ⊢
    omega
theorem aEv {l : List UInt8} : (ofB l).extract 0 (lP l).length = ofB (lP l) := by
 apply YJ
 rw [YK, NM, NM, dI, nY]
 cases l with
 | nil => rfl
 | cons x r =>
   unfold lP
   dsimp only
   by_cases a : Iq.mO x = true
   ·rw [if_pos a, bF, List.take_succ_cons, ← List.prefix_iff_eq_take.1 (kZ _)]
   ·rw [if_neg a]
    rfl
theorem aIi (l : List UInt8) : (lP l).length ≤ l.length := by
 cases l with
 | nil => simp [lP]
 | cons x r =>
   unfold lP
   dsimp only
   have hle := (kZ (l := r) Iq.pO).length_le
   split <;> simp <;> omega
attribute [local irreducible] G GC GQ GA eN Calls IntKind.wrap Int.decLt Int.decLe
theorem WQ (l : List UInt8) (hl : l.length ≤ 1000000) (w : World) (μ : Mem) (hμ : MOk μ w) : aV 166 #[.string (ofB l), .int .i64 0] w (.tuple #[.string (ofB (lP l)), .int .i64 (lP l).length]) := by
 refine aE (args := [.string (ofB l), .int .i64 0]) Tryz.func166 rfl Tryz.ntmps166 (by simp) hμ ?_
 have aa := OR l
 by_cases h0 : l = []
 ·subst h0
  have hz : (ofB ([] : List UInt8)).size = 0 := rfl
  try repeat' (refine KZ ?_)
  all_goals first | skip
  all_goals exact uE rfl (cN rfl) (cN rfl) rfl rfl
 obtain ⟨c, r, rfl⟩ : ∃ c r, l = c :: r := by
  cases l with
  | nil => exact absurd rfl h0
  | cons c r => exact ⟨c, r, rfl⟩
 have z : 0 < (c :: r).length := by simp
 obtain ⟨c0, e, v⟩ := aG4 (s := ofB (c :: r)) (i := 0) (by omega)
 rw [NM] at e
 cases e
 cases hc : Iq.mO c with
 | false =>
   have hn : lP (c :: r) = [] := by
    unfold lP
    simp [hc]
   rw [hn]
   try repeat' (first | refine KO ?_ | refine K2 176 (fun w μc hw p => uS _ c false (by omega) hc w μc hw) ?_ | (refine KV (b := by exact U2 0) (c := ?_)) | refine KZ ?_)
   all_goals first | skip
   all_goals exact uE rfl (cN rfl) (cN rfl) rfl rfl
 | true =>
   have hle := aIi (c :: r)
   have o := aEv (l := c :: r)
   have hne : 1 ≤ (lP (c :: r)).length := MF (aI _) (fun _ => hc) rfl ((sU c).2 (.inl hc)) (.inr rfl)
   have g := fun (j : Nat) (d : UInt8) (q : j ≤ (lP (c :: r)).length) (h1 : j = 0 → Iq.mO d = true) (h2 : (c :: r)[j]? = some d) (h3 : Iq.pO d = true) => MF q h1 h2 h3 (.inl (by intro h; rw [h] at hne; simp at hne))
   have f := fun (j : Nat) => aBr (l := c :: r) (j := j)
   have y : (c :: r)[0]? = some c := rfl
   generalize lP (c :: r) = u at hle o hne g f ⊢
   generalize ab : c :: r = l at *
   try repeat' (first | refine KO ?_ | refine K2 176 (fun w μc hw p => uS _ c true (by omega) hc w μc hw) ?_ | (refine KV (b := by exact U2 0) (c := ?_)) | refine KZ ?_)
   all_goals first | skip
   all_goals refine bW (ι := Nat) (fun j => 1 ≤ j ∧ j ≤ u.length) (fun j => l.length - j) (fun _ => μ) (fun j => [(6, .int .i64 (j : Int)), (1, .int .i64 0), (0, .string (ofB l)), (4, .string ⟨#[]⟩), (5, .int .i64 0)]) (fun _ => []) 1 ⟨by omega, by omega⟩ (fun a w hs => hs.sel PU PS) ?_
   intro j ⟨ad, q⟩
   clear v
   by_cases hlt : j < l.length
   ·obtain ⟨d, e, v⟩ := aG4 (s := ofB l) (i := j) (by omega)
    rw [NM] at e
    have x : j = 0 → d = c := by
     intro h
     rw [h, y] at e
     exact (cX e).symm
    cases k : Iq.mO d with
    | true =>
      have hw := g j d q (fun _ => k) e ((sU d).2 (.inl k))
      try repeat' (first | refine KO ?_ | refine K2 176 (fun w μc hw p => uS _ d true (by omega) k w μc hw) ?_ | (refine KV (b := by exact U2 j) (c := ?_)) | refine KZ ?_)
      all_goals first | skip
      all_goals refine cP (j + 1) ⟨by omega, hw⟩ (by omega) rfl PU PS
    | false =>
      by_cases t : 48 ≤ (d.toNat : Int) ∧ (d.toNat : Int) ≤ 57
      ·have hw := g j d q (fun h => by rw [x h]; exact hc) e ((sU d).2 (.inr t))
       try repeat' (first | refine KO ?_ | refine K2 176 (fun w μc hw p => uS _ d false (by omega) k w μc hw) ?_ | (refine KV (b := by exact U2 j) (c := ?_)) | refine KZ ?_)
       all_goals first | skip
       all_goals refine cP (j + 1) ⟨by omega, hw⟩ (by omega) rfl PU PS
      ·have hw := f j q (.inr ⟨d, e, by
        cases hp : Iq.pO d with
        | false => rfl
        | true => rcases (sU d).1 hp with h | h
                  ·rw [k] at h; cases h
                  ·exact absurd h t⟩)
       subst hw
       try repeat' (first | refine KO ?_ | refine K2 176 (fun w μc hw p => uS _ d false (by omega) k w μc hw) ?_ | (refine KV (b := by first | exact U2 u.length | ((with_reducible apply EJ 0 u.length o); (iterate 3 exact rfl); rfl; exact rfl; rfl; omega; (rw [OR]; omega))) (c := ?_)) | refine KZ ?_ | (refine KB ?_ ?_ <;> intro hp))
       all_goals first | skip
       all_goals exact uE rfl (cN rfl) (cN rfl) rfl rfl
   ·have hw := f j q (.inl (by omega))
    subst hw
    try repeat' (first | refine KO ?_ | (refine KV (b := by ((with_reducible apply EJ 0 u.length o); (iterate 3 exact rfl); rfl; exact rfl; rfl; omega; (rw [OR]; omega))) (c := ?_)) | refine KZ ?_)
    all_goals first | skip
    all_goals exact uE rfl (cN rfl) (cN rfl) rfl rfl
end Go.Proofs.YtlllalmkkaolfaaGreatDoor
namespace Go.Vcg
open Go.RowKit Go.Proofs.YtlllalmkkaolfaaGreatDoor Go.Proofs.YtlllalmkkaolfaaGreatDoor.Ou
section
variable {P : Program} {μ : Mem} {l : bP} {L : List Bk} {ty : TypeId} {pos : String} {af : Array Edge} {gd : Option (Nat × Bool)} {ds : Option Nat}
theorem aDp {p q : Operand} {t t2 : TypeId} {a b : List UInt8} (h0 : ev l p = some (.string (ofB a))) (h1 : ev l q = some (.string (ofB b))) (hb : a.length + b.length ≤ 9000000000000000000) :
 Val P μ l L ⟨ds, .binOp .add t p q t2, ty, pos, af, gd⟩ (.string (ofB (a ++ b))) := by
 have h := UY (P := P) (μ := μ) (L := L) (ds := ds) (ty := ty) (pos := pos) (af := af) (gd := gd) (t := t) (t2 := t2) h0 h1 (by
  have e : ∀ l : List UInt8, (ofB l).size = l.length := fun l => by simp [ofB, ByteArray.size]
  rw [e, e]; omega)
 have e : ofB a ++ ofB b = ofB (a ++ b) := by
  apply aJ4
  rw [aJ3]
  show ((ofB a) ++ (ofB b)).data.toList = _
  rw [ByteArray.data_append]
  simp [ofB]
 rw [← e]
 exact h
end
end Go.Vcg
namespace Go.Proofs.YtlllalmkkaolfaaGreatDoor
section
open Go.RowKit Go.Vcg Go.Shelf Ou
def tG (μ : Mem) : Prop := ∃ m : Int, oA μ ⟨2, 0, none⟩ (.int .i64 m)
theorem tG.mono {μ μ' : Mem} (h : tG μ) (hle : MLe μ μ') : tG μ' := by
 obtain ⟨m, hm⟩ := h
 exact ⟨m, hm.mono hle⟩
theorem SO (s t : List UInt8) (hs : s.length ≤ 3000000) (w : World) (μ : Mem) (hμ : MOk μ w) (hm : tG μ) : aV 177 #[.string (ofB s), .string (ofB t)] w (.int .i64 (Lib.index s t)) := by
 obtain ⟨m, a, t', f, h1, h2, h3⟩ := hm
 have hc : w.cell? ⟨2, 0, none⟩ = some (.int .i64 m) := by
  have hw := hμ _ _ h1
  simp only at hw
  simp [World.cell?, hw, h3]
 refine (Any.strings_Index Tryz.lays143 (ofB s) (ofB t) m w (show s.toArray.size < _ by simp; omega) hc).mono fun e w' he => ?_
 obtain ⟨rfl, rfl⟩ := he
 refine ⟨?_, rfl, rfl, rfl, aD _, fun _ _ => rfl⟩
 simp [ofB]
def PZ : List UInt8 := [32, 98, 114, 101, 97, 107, 32, 99, 97, 115, 101, 32, 99, 97, 116, 99, 104, 32, 99, 108, 97, 115, 115, 32, 99, 111, 110, 115, 116, 32, 99, 111, 110, 116, 105, 110, 117, 101, 32, 100, 101, 98, 117, 103, 103, 101, 114, 32, 100, 101, 102, 97, 117, 108, 116, 32, 100, 101, 108, 101, 116, 101, 32, 100, 111, 32, 101, 108, 115, 101, 32, 101, 110, 117, 109, 32, 101, 120, 112, 111, 114, 116, 32, 101, 120, 116, 101, 110, 100, 115, 32, 102, 97, 108, 115, 101, 32, 102, 105, 110, 97, 108, 108, 121, 32, 102, 111, 114, 32, 102, 117, 110, 99, 116, 105, 111, 110, 32, 105, 102, 32, 105, 109, 112, 111, 114, 116, 32, 105, 110, 32, 105, 110, 115, 116, 97, 110, 99, 101, 111, 102, 32, 110, 101, 119, 32, 110, 117, 108, 108, 32, 114, 101, 116, 117, 114, 110, 32, 115, 117, 112, 101, 114, 32, 115, 119, 105, 116, 99, 104, 32, 116, 104, 105, 115, 32, 116, 104, 114, 111, 119, 32, 116, 114, 117, 101, 32, 116, 114, 121, 32, 116, 121, 112, 101, 111, 102, 32, 118, 97, 114, 32, 118, 111, 105, 100, 32, 119, 104, 105, 108, 101, 32, 119, 105, 116, 104, 32]
def OD : List UInt8 := [32, 105, 109, 112, 108, 101, 109, 101, 110, 116, 115, 32, 105, 110, 116, 101, 114, 102, 97, 99, 101, 32, 108, 101, 116, 32, 112, 97, 99, 107, 97, 103, 101, 32, 112, 114, 105, 118, 97, 116, 101, 32, 112, 114, 111, 116, 101, 99, 116, 101, 100, 32, 112, 117, 98, 108, 105, 99, 32, 115, 116, 97, 116, 105, 99, 32, 121, 105, 101, 108, 100, 32]
def wdL (l : List UInt8) : Int := if lP l = [] ∨ lP l ≠ l then 0 else if Lib.contains PZ ([32] ++ l ++ [32]) then 1 else if Lib.contains OD ([32] ++ l ++ [32]) then 2 else 0
def wdF (s : ByteArray) : Int := wdL (bl s)
attribute [local irreducible] G GC GQ GA eN Calls IntKind.wrap Int.decLt Int.decLe
theorem xH (s t : List UInt8) (hs : s.length ≤ 3000000) (w : World) (μ : Mem) (hμ : MOk μ w) (hm : tG μ) : aV 167 #[.string (ofB s), .string (ofB t)] w (.bool (Lib.contains s t)) := by
 refine aE (args := [.string (ofB s), .string (ofB t)]) Tryz.func167 rfl Tryz.ntmps167 (by simp) hμ ?_
 unfold Lib.contains
 have hi := fun w μc hw hm => SO s t hs w μc hw hm
 generalize Lib.index s t = k at hi ⊢
 try repeat' (first | refine KO ?_ | refine K2 177 (fun w μc hw a => hi w μc hw (hm.mono a)) ?_)
 all_goals first | skip
 all_goals exact aJ rfl rfl rfl
attribute [local irreducible] Lib.contains lP
theorem WO (l : List UInt8) (hl : l.length ≤ 1000000) (w : World) (μ : Mem) (hμ : MOk μ w) (hm : tG μ) : aV 142 #[.string (ofB l)] w (.int .i64 (wdL l)) := by
 generalize e : wdL l = R
 unfold wdL at e
 have hn := fun (w : World) (μc : Mem) (hw : MOk μc w) => WQ l hl w μc hw
 have i := fun w μc hw (hle : MLe μ μc) => xH PZ ([32] ++ l ++ [32]) (by decide) w μc hw (hm.mono hle)
 have g := fun w μc hw (hle : MLe μ μc) => xH OD ([32] ++ l ++ [32]) (by decide) w μc hw (hm.mono hle)
 refine aE (args := [.string (ofB l)]) Tryz.func142 rfl Tryz.ntmps142 (by simp) hμ ?_
 dsimp only [List.append]
 have f : ∀ {a c : List UInt8}, ofB a = ofB c → a = c := fun {a c} h => by have := congrArg bl h; rwa [NM, NM] at this
 by_cases h0 : lP l = []
 ·rw [if_pos (.inl h0)] at e
  subst e
  rw [h0] at hn
  have j : (ofB ([] : List UInt8)) = ⟨#[]⟩ := rfl
  try repeat' (first | refine KO ?_ | refine K2 166 (fun w μc hw d => hn w μc hw) ?_)
  all_goals exact aJ rfl rfl rfl
 have j : ¬ofB (lP l) = ⟨#[]⟩ := fun h => h0 (f (c := []) h)
 by_cases h1 : lP l = l
 rotate_left
 ·rw [if_pos (.inr h1)] at e
  subst e
  have h2 : ¬ofB (lP l) = ofB l := fun h => h1 (f h)
  generalize lP l = u at hn j h2
  try repeat' (first | refine KO ?_ | refine K2 166 (fun w μc hw d => hn w μc hw) ?_ | refine KZ ?_)
  all_goals exact aJ rfl rfl rfl
 rw [if_neg (fun h => h.elim h0 (fun h => h h1))] at e
 rw [h1] at hn j
 generalize Lib.contains PZ ([32] ++ l ++ [32]) = cA at e i
 generalize Lib.contains OD ([32] ++ l ++ [32]) = cS at e g
 try repeat' (first | refine KO ?_ | refine K2 166 (fun w μc hw d => hn w μc hw) ?_ | ((with_reducible apply F1 167); exact rfl; exact EN; (first | exact fun w μc hw d => i w μc hw d.le | exact fun w μc hw d => g w μc hw d.le)) | (refine KV (b := by first | ((with_reducible apply aDp (a := [32])); exact rfl; exact rfl; (simp only [bF, bJ]; omega)) | ((with_reducible apply aDp (b := [32])); exact rfl; exact rfl; (simp only [aK, bF, bJ]; omega))) (c := ?_)) | refine KZ ?_ | (refine KB ?_ ?_ <;> intro k))
 all_goals first | skip
 all_goals refine aJ rfl rfl ?_
 all_goals simp_all
end
section
open Go.RowKit Go.Vcg Ou
theorem gI {P : Program} {fn : Func} {n : Nat} {μ μ0 : Mem} {l : bP} {L Lr : List Bk} {M : List Nat} {w : World} {xb mb : Nat} {s s' : ES} {ex : Exit} (k : Nat) (i : List FR) (he : ex = .ret ∨ ex = .normal) (b : ∀ D, M.count D ≤ 1) (hr : fn.results = #[]) (hL : splitB k L = some (Lr, EB xb mb s i)) (hs : s = s') (a : ER μ i s) :
 GQ ⟨w, μ0, M, n⟩ (bodyPost P fn (fun e w' => ∃ (v : Value) (μ' : Mem) (i : List FR), e = .returned v ∧ lT M w w' μ0 (EB xb mb s' i) μ' ∧ ER μ' i s')) ex μ l L := by
 subst hs
 exact wV (Ls := fun i => EB xb mb s i) (Post := fun μ' _ i => ER μ' i s) k i he b hr hL rfl (fun μ' _ hle => a.mono hle)
theorem WJ (x : ByteArray) : ofB (bl x) = x := by
 cases x
 simp [bl, ofB]
theorem aHr : ("let".toUTF8 : ByteArray) = ⟨#[108, 101, 116]⟩ := by decide +kernel
theorem aA3 : ("yield".toUTF8 : ByteArray) = ⟨#[121, 105, 101, 108, 100]⟩ := by decide +kernel
attribute [local irreducible] wdL anI mP mkD G GC GQ GA eN Calls IntKind.wrap Int.decLt Int.decLe
theorem aK9 (x : ByteArray) (a : x.size ≤ 1000000) (w : World) (μ : Mem) (hμ : MOk μ w) (hm : tG μ) : aV 142 #[.string x] w (.int .i64 (wdF x)) := by
 have h := WO (bl x) (by rw [BF]; exact a) w μ hμ hm
 rwa [WJ] at h
theorem qV (xb mb : Nat) (t : T) (u : Value) (hu : u.oneCell' = true) (x : ByteArray) (j : x.size ≤ 1000000) (p : EP) (pv : Value) (s : ES) (μ : Mem) (g : PV μ p pv) (hm : tG μ) :
 CEs 105 [.pointer (some ⟨xb, 0, none⟩), .agg (aY t u).toArray, .string x, pv] xb mb s (pG wdF t x p s) μ := by
 intro w fs hμ f i
 have c := dJ i.diff
 obtain ⟨r, lb, lo, mi, rfl, hr, h2, h3, h4⟩ := g
 have o1 := hr.one
 have o2 := h2.one
 have o3 := h3.one
 have o4 := h4.one
 have hw := fun w μc hw (hle : MLe μ μc) => aK9 x j w μc hw (hm.mono hle)
 generalize a : pG wdF t x p s = s'
 unfold pG at a
 generalize wdF x = wd at hw a
 refine cC (args := [.pointer (some ⟨xb, 0, none⟩), .agg (aY t u).toArray, .string x, .agg (hZ p r lb lo mi).toArray]) Tryz.func105 rfl Tryz.ntmps105 (by simp) hμ i ?_
 rw [aHr, aA3] at a
 try repeat' (first | refine KO ?_ | (refine CF 106 ?_; refine iR 2 rfl rfl rfl EN rfl f (pU xb mb t _ hu _ _ _ _) ?_; intro v1 μ1 i1 h f; dsimp only [aL, aP]) | ((with_reducible apply F1 142); exact rfl; exact EN; exact fun w μc d e => hw w μc d e.le) | refine KZ ?_ | refine NB fun b => ?_ | (refine KB ?_ ?_ <;> intro g))
 all_goals exact gI 2 i1 (.inr rfl) c rfl rfl (by rw [← a]; simp_all) f
end
section
open Go.RowKit Go.Vcg
inductive eK (q : T → Prop) : T → Prop
 | mk {t : T} (h : q t) (hk : ∀ k ∈ t.kids, eK q k) : eK q t
theorem eK.here {q : T → Prop} {t : T} (h : eK q t) : q t := by cases h; assumption
theorem eK.kid {q : T → Prop} {t k : T} (h : eK q t) (hk : k ∈ t.kids) : eK q k := by
 cases h with
 | mk _ h => exact h k hk
structure Kc (t : T) : Prop where
 two : t.op = 4 ∨ t.op = 20 ∨ t.op = 13 ∨ t.op = 14 ∨ t.op = 62 ∨ t.op = 63 → 2 ≤ t.kids.length
 one : t.op = 10 ∨ t.op = 11 ∨ t.op = 12 ∨ t.op = 21 ∨ t.op = 9 ∨ t.op = 23 ∨ t.op = 42 ∨ (t.op = 39 ∧ t.n = 3) → 1 ≤ t.kids.length
 sub : t.op = 2 → ∀ k ∈ t.kids, 1 ≤ k.kids.length
def szs (l : List T) : Nat := (l.map T.size).sum
theorem cO (k : T) (l : List T) : szs (k :: l) = k.size + szs l := by simp [szs]
theorem BR (a b : List T) : szs (a ++ b) = szs a + szs b := by simp [szs]
theorem bA (t : T) : t.size = 1 + szs t.kids := T.size_eq t
def AK (l : List (ByteArray × List ED)) : Nat := (l.map fun p => p.2.length).sum
theorem aAa (x : ByteArray) : ∀ l : List (ByteArray × List ED), (oL x l).length ≤ AK l
 | [] => aD _
 | (y, m) :: r => by
   have := aAa x r
   simp only [oL, AK, aO, dQ] at this ⊢
   split <;> omega
theorem YV (x : ByteArray) (d : ED) : ∀ l : List (ByteArray × List ED), AK (vL x (oL x l ++ [d]) l) = AK l + 1
 | [] => by simp [oL, vL, AK]
 | (y, m) :: r => by
   have := YV x d r
   simp only [oL, vL]
   by_cases h : x = y
   ·rw [if_pos h, if_pos h]
    simp [AK]
    omega
   ·rw [if_neg h, if_neg h]
    simp only [AK, aO, dQ] at this ⊢
    omega
theorem CL (x y : ByteArray) (m : List ED) : ∀ l : List (ByteArray × List ED), oL y (vL x m l) = if y = x then m else oL y l
 | [] => by simp [oL, vL]
 | (z, k) :: r => by
   have := CL x y m r
   simp only [vL]
   by_cases h : x = z
   ·rw [if_pos h]
    simp only [oL]
    by_cases h2 : y = x
    ·rw [if_pos (h2.trans h), if_pos h2]
    ·rw [if_neg (fun e => h2 (e.trans h.symm)), if_neg h2, if_neg (fun e => h2 (e.trans h.symm))]
   ·rw [if_neg h]
    simp only [oL]
    by_cases h2 : y = z
    ·rw [if_pos h2, if_neg (fun e => h (e.symm.trans h2)), if_pos h2]
    ·rw [if_neg h2, this, if_neg h2]
structure Gr (F : ByteArray → Prop) (n : Nat) (s s' : ES) : Prop where
 per : s.e ≠ 0 → s'.e ≠ 0
 regs : s.regs ≤ s'.regs
 wt : s'.regs + AK s'.names ≤ s.regs + AK s.names + n
 fr : ∀ x, F x → oL x s'.names = oL x s.names
theorem Gr.refl {F : ByteArray → Prop} {n : Nat} (s : ES) : Gr F n s s := ⟨fun h => h, aD _, by omega, fun _ _ => rfl⟩
theorem Gr.trans {F : ByteArray → Prop} {n m k : Nat} {s s' s'' : ES} (h : Gr F n s s') (a : Gr F m s' s'') (hk : n + m ≤ k) : Gr F k s s'' :=
 ⟨fun h0 => a.per (h.per h0), dO h.regs a.regs, by have := h.wt; have := a.wt; omega, fun x b => (a.fr x b).trans (h.fr x b)⟩
theorem Gr.mono {F : ByteArray → Prop} {n m : Nat} {s s' : ES} (h : Gr F n s s') (hk : n ≤ m) : Gr F m s s' := ⟨h.per, h.regs, by have := h.wt; omega, h.fr⟩
section
variable {F : ByteArray → Prop}
theorem NO {c : Bool} {a e : Int} {s : ES} (h : s.e ≠ 0) : jC c a e s = s := by unfold jC; rw [if_neg (fun h2 => h h2.2)]
theorem FL (c : Bool) (a e : Int) (s : ES) : (jC c a e s).names = s.names := by unfold jC; split <;> rfl
theorem KH (c : Bool) (a e : Int) (s : ES) : (jC c a e s).regs = s.regs := by unfold jC; split <;> rfl
theorem lD (c : Bool) (a e : Int) (s : ES) : Gr F 0 s (jC c a e s) :=
 ⟨fun h => by rw [NO h]; exact h, by rw [KH]; exact aD _, by rw [KH, FL]; omega, fun x _ => by rw [FL]⟩
theorem OW (a : Int) (x : ByteArray) (d : ED) (s : ES) (c : ¬F x) : Gr F 1 s (uW a x d s) := by
 have h := lD (F := F) ((oL x s.names).any fun o => nV o d) a 30 s
 refine ⟨h.per, h.regs, ?_, fun y b => ?_⟩
 ·show (jC _ a 30 s).regs + AK (vL x (oL x (jC _ a 30 s).names ++ [d]) (jC _ a 30 s).names) ≤ _
  rw [YV]
  have := h.wt
  omega
 ·show oL y (vL x (oL x (jC _ a 30 s).names ++ [d]) (jC _ a 30 s).names) = _
  rw [CL, if_neg (fun e => c (by rw [← e]; exact b))]
  exact h.fr y b
theorem rD (wd : ByteArray → Int) (t : T) (x : ByteArray) (p : EP) (s : ES) : Gr F 0 s (pG wd t x p s) := by
 unfold pG
 dsimp only
 split
 ·exact ((lD _ _ _ _).trans (lD _ _ _ _) (aD _)).trans (lD _ _ _ _) (aD _)
 ·exact (lD _ _ _ _).trans (lD _ _ _ _) (aD _)
theorem sD (s : ES) : Gr F 1 s (gA s) := ⟨fun h => h, Nat.le_succ _, by show s.regs + 1 + AK s.names ≤ _; omega, fun _ _ => rfl⟩
theorem oC {α : Type} {g : ES → α → ES} {c : α → Nat} : ∀ (l : List α) (s : ES), (∀ k ∈ l, ∀ s, Gr F (c k) s (g s k)) → Gr F ((l.map c).sum) s (l.foldl g s)
 | [], s, _ => Gr.refl s
 | k :: r, s, h => by
   rw [bY]
   exact (h k (by simp) s).trans (oC r (g s k) fun k hk => h k (cK hk)) (by simp)
theorem pM (l : List T) : (l.map fun k => 2 * T.size k).sum = 2 * szs l := by
 induction l with
 | nil => rfl
 | cons k r ih => rw [aO, dQ, ih, cO]; omega
theorem eH {t : T} {i : Nat} (h : i < t.kids.length) : dC t i ∈ t.kids := by
 unfold dC
 rw [aA h]
 exact lA h
theorem wG {t : T} (h : 2 ≤ t.kids.length) : ∃ r, t.kids = dC t 0 :: dC t 1 :: r := by
 unfold dC
 match hk : t.kids with
 | [] => rw [hk] at h; simp at h
 | [_] => rw [hk] at h; simp at h
 | a :: b :: r => exact ⟨r, rfl⟩
theorem EZ {t : T} (h : 1 ≤ t.kids.length) : t.kids = dC t 0 :: t.kids.drop 1 := by
 unfold dC
 match hk : t.kids with
 | [] => rw [hk] at h; simp at h
 | a :: r => rfl
variable {wd : ByteArray → Int} {N : T → EP → ES → ES} {B : T → EP → ED → ES → ES} {q : T → Prop}
theorem xN (l : List T) (a : ∀ k ∈ l, ∀ p s, Gr F (2 * k.size) s (N k p s)) (p : EP) (s : ES) : Gr F (2 * szs l) s (oT N l p s) := by
 rw [← pM]
 exact oC l s fun k hk s => a k hk p s
theorem xM (t : T) (a : ∀ p s, Gr F (2 * t.size) s (N t p s)) (p : EP) (s : ES) : Gr F (2 * t.size) s (nW N t p s) := by
 unfold nW
 exact (lD _ _ _ _).trans (a _ _) (by omega)
theorem aI7 (f : ∀ t, q t → Kc t ∧ ¬F t.s) (t : T) (ht : eK q t) (e : ∀ k ∈ t.kids, ∀ p s, Gr F (2 * k.size) s (N k p s)) (b : ∀ k ∈ t.kids, ∀ p d s, Gr F (2 * k.size) s (B k p d s)) (p : EP) (d : ED) (s : ES) : Gr F (2 * t.size) s (NN wd N B t p d s) := by
 obtain ⟨hc, hf⟩ := f t ht.here
 have a := bA t
 unfold NN
 split
 ·exact (rD _ _ _ _ _).trans (OW _ _ _ _ hf) (by omega)
 split
 ·exact (lD _ _ _ _).mono (by omega)
 split
 ·rename_i h
  have h2 := hc.two (by simp [h])
  obtain ⟨r, hr⟩ := wG h2
  rw [hr, cO, cO] at a
  exact (b _ (eH (by omega)) _ _ _).trans (e _ (eH (by omega)) _ _) (by omega)
 split
 ·rename_i h
  have h2 := hc.two (by simp [h])
  obtain ⟨r, hr⟩ := wG h2
  rw [hr, cO, cO] at a
  exact (e _ (eH (by omega)) _ _).trans (b _ (eH (by omega)) _ _ _) (by omega)
 split
 ·have := oC (F := F) (c := fun k => 2 * T.size k) (g := fun s k => B k p d s) t.kids s fun k hk s => b k hk p d s
  rw [pM] at this
  exact this.mono (by omega)
 ·exact Gr.refl s
theorem aMu (j : ∀ t, q t → Kc t ∧ ¬F t.s) (t : T) (ht : eK q t) (h4 : t.op = 4) (e : ∀ k, eK q k → k.size < t.size → ∀ p s, Gr F (2 * k.size) s (N k p s)) (o : ∀ k, eK q k → k.size < t.size → ∀ p d s, Gr F (2 * k.size) s (B k p d s)) (p : EP) (own : Bool) (s : ES) : Gr F (2 * t.size) s (aCs wd N B t p own s) := by
 obtain ⟨hc, hf⟩ := j t ht.here
 have b := bA t
 have h2 := hc.two (by simp [h4])
 obtain ⟨r, hr⟩ := wG h2
 rw [hr, cO, cO] at b
 have h := bA (dC t 0)
 have f := bA (dC t 1)
 have c := ht.kid (eH (t := t) (i := 0) (by omega))
 have a := ht.kid (eH (t := t) (i := 1) (by omega))
 have hle : ∀ {k l}, k ∈ l → T.size k ≤ szs l := fun {k l} hk => T.eF (List.mem_map.2 ⟨k, hk, rfl⟩)
 unfold aCs
 dsimp only
 have g1 : ∀ s, Gr F 0 s (if t.s ≠ ⟨#[]⟩ then pG wd t t.s { p with strict := (inP t p).strict } s else s) := fun s => by
  split
  ·exact rD _ _ _ _ _
  ·exact Gr.refl s
 have g3 : ∀ s, Gr F 1 s (if pY t.n 1 then uW t.at' t.s ⟨!own, if own then p.regs else oF p, 0, false⟩ s else s) := fun s => by
  split
  ·exact OW _ _ _ _ hf
  ·exact Gr.refl s
 have g := (((g1 s).trans (lD (qZ t && !rZ (dC t 0)) t.at' 35 _) (aD _)).trans (g3 _) (aD _)).trans (sD _) (aD _)
 have hb : ∀ p d s, Gr F (2 * szs (dC t 0).kids) s ((dC t 0).kids.foldl (fun s k => B k p d s) s) := fun p d s => by
  rw [← pM]
  exact oC _ _ fun k hk s => o k (c.kid hk) (by have := hle hk; omega) p d s
 split
 ·exact (g.trans (hb _ _ _) (aD _)).trans (e _ a (by omega) _ _) (by omega)
 ·exact (g.trans (hb _ _ _) (aD _)).trans (xN _ (fun k hk => e k (a.kid hk) (by have := hle hk; omega)) _ _) (by omega)
theorem aI0 (f : ∀ t, q t → Kc t ∧ ¬F t.s) (t : T) (ht : eK q t) (h4 : t.op = 2) (h : ∀ k, eK q k → k.size < t.size → ∀ p s, Gr F (2 * k.size) s (N k p s)) (i : ∀ k, eK q k → k.size < t.size → ∀ p d s, Gr F (2 * k.size) s (B k p d s)) (p : EP) (each : Bool) (s : ES) : Gr F (2 * t.size) s (LI N B t p each s) := by
 obtain ⟨hc, hf⟩ := f t ht.here
 have e := bA t
 have hle : ∀ {k l}, k ∈ l → T.size k ≤ szs l := fun {k l} hk => T.eF (List.mem_map.2 ⟨k, hk, rfl⟩)
 unfold LI
 dsimp only
 have := oC (F := F) (c := fun k => 2 * T.size k) (g := fun s k => oT N (k.kids.drop 1) p (B (dC k 0) p (if t.n ≠ 0 then ⟨true, oF p, 0, false⟩ else ⟨false, p.regs, 0, false⟩) (jC (decide (k.kids.length = 1) && !each && (decide (t.n = 2) || decide ((dC k 0).op ≠ 34))) k.at' 36 s))) t.kids s fun k hk s => by
  have h1 := hc.sub h4 k hk
  have h2 := EZ h1
  have h3 := bA k
  rw [h2, cO] at h3
  have h5 := hle hk
  have a := ht.kid hk
  exact ((lD _ _ _ _).trans (i _ (a.kid (eH (by omega))) (by omega) _ _ _) (aD _)).trans (xN _ (fun x b => h x (a.kid (cD b)) (by have := hle b; omega)) _ _) (by omega)
 rw [pM] at this
 exact this.mono (by omega)
theorem aI3 (t : T) (ht : eK q t) (hc : Kc t) (h : t.op = 10 ∨ t.op = 11 ∨ t.op = 12 ∨ t.op = 13 ∨ t.op = 14) (i : ∀ k, eK q k → k.size < t.size → ∀ p s, Gr F (2 * k.size) s (N k p s)) (p : EP) (mine : List ByteArray) (s : ES) : Gr F (2 * t.size) s (MG N t p mine s) := by
 have e := bA t
 have hle : ∀ {k l}, k ∈ l → T.size k ≤ szs l := fun {k l} hk => T.eF (List.mem_map.2 ⟨k, hk, rfl⟩)
 have a : ∀ k ∈ t.kids, ∀ p s, Gr F (2 * k.size) s (N k p s) := fun k hk => i k (ht.kid hk) (by have := hle hk; omega)
 have hr : ∀ k ∈ t.kids, ∀ p s, Gr F (2 * k.size) s (DM N k p mine s) := fun k hk p s => xM k (a k hk) _ s
 unfold MG
 split
 ·have h2 := hc.two (by simp [*])
  obtain ⟨r, b⟩ := wG h2
  rw [b, cO, cO] at e
  exact (a _ (eH (by omega)) _ _).trans (hr _ (eH (by omega)) _ _) (by omega)
 split
 ·have h2 := hc.two (by simp [*])
  obtain ⟨r, b⟩ := wG h2
  rw [b, cO, cO] at e
  exact (hr _ (eH (by omega)) _ _).trans (a _ (eH (by omega)) _ _) (by omega)
 ·have h1 := hc.one (by omega)
  dsimp only
  have d : t.kids = t.kids.take (t.kids.length - 1) ++ [dC t (t.kids.length - 1)] := by
   unfold dC
   conv => lhs; rw [← dD (t.kids.length - 1) t.kids]
   congr 1
   rw [dT (by omega), aA (by omega), List.drop_eq_nil_of_le (by omega)]
   rfl
  have f : szs t.kids = szs (t.kids.take (t.kids.length - 1)) + (dC t (t.kids.length - 1)).size := by
   conv => lhs; rw [d]
   rw [BR, cO]
   rfl
  have := oC (F := F) (c := fun k => 2 * T.size k) (g := fun s k => N k { mU p s with each := decide (t.op ≠ 10) } s) (t.kids.take (t.kids.length - 1)) (gA s) fun k hk s => a k (aZ hk) _ s
  have h3 : ∀ (P : EP) (s : ES), Gr F (2 * szs (t.kids.take (t.kids.length - 1))) s ((t.kids.take (t.kids.length - 1)).foldl (fun s k => N k P s) s) := fun P s => by
   rw [← pM]
   exact oC _ _ fun k hk s => a k (aZ hk) P s
  exact ((sD s).trans (h3 _ _) (aD _)).trans (hr _ (eH (by omega)) _ _) (by omega)
theorem ZY (t : T) (p : EP) (s : ES) : Gr F 0 s (MM wd t p s) := by
 unfold MM
 split
 ·exact lD _ _ _ _
 ·exact ((rD _ _ _ _ _).trans (lD _ _ _ _) (aD _)).trans (lD _ _ _ _) (aD _)
theorem aI1 (t : T) (c : ∀ k ∈ t.kids, ∀ p s, Gr F (2 * k.size) s (N k p s)) (p : EP) (s : ES) : Gr F (2 * t.size) s (LZ wd N t p s) := by
 have b := bA t
 have a : ∀ s, Gr F (2 * szs t.kids) s (oT N t.kids p s) := fun s => xN _ c p s
 unfold LZ
 split
 ·exact (ZY _ _ _).trans (a _) (by omega)
 split
 ·exact (lD _ _ _ _).trans (a _) (by omega)
 split
 ·exact (rD _ _ _ _ _).trans (a _) (by omega)
 split
 ·exact (rD _ _ _ _ _).mono (by omega)
 split
 ·exact (lD _ _ _ _).trans (a _) (by omega)
 split
 ·exact (lD _ _ _ _).trans (a _) (by omega)
 ·exact (a _).mono (by omega)
theorem aI2 (e : ∀ t, q t → Kc t ∧ ¬F t.s) (t : T) (ht : eK q t) (c : ∀ k, eK q k → k.size < t.size → ∀ p s, Gr F (2 * k.size) s (N k p s)) (g : ∀ k, eK q k → k.size < t.size → ∀ p d s, Gr F (2 * k.size) s (B k p d s)) (p : EP) (s : ES) : Gr F (2 * t.size) s (MC wd N B t p s) := by
 obtain ⟨hc, hf⟩ := e t ht.here
 have b := bA t
 have hle : ∀ {k l}, k ∈ l → T.size k ≤ szs l := fun {k l} hk => T.eF (List.mem_map.2 ⟨k, hk, rfl⟩)
 have a : ∀ k ∈ t.kids, ∀ p s, Gr F (2 * k.size) s (N k p s) := fun k hk => c k (ht.kid hk) (by have := hle hk; omega)
 unfold MC
 dsimp only
 split
 ·exact Gr.refl s
 split
 ·exact aI0 e t ht (by assumption) c g _ _ _
 split
 ·exact aMu e t ht (by assumption) c g _ _ _
 split
 ·exact (sD s).trans (xN _ a _ _) (by omega)
 split
 ·have h2 := hc.two (by simp [*])
  obtain ⟨r, hr⟩ := wG h2
  rw [hr, cO, cO] at b
  have h := bA (dC t 1)
  have f := ht.kid (eH (t := t) (i := 1) (by omega))
  exact ((sD s).trans (g _ (ht.kid (eH (by omega))) (by omega) _ _ _) (aD _)).trans (xN _ (fun k hk => c k (f.kid hk) (by have := hle hk; omega)) _ _) (by omega)
 split
 ·exact aI3 t ht hc (by assumption) c _ _ _
 split
 ·have h1 := hc.one (by simp [*])
  have h2 := EZ h1
  rw [h2, cO] at b
  exact ((a _ (eH (by omega)) _ _).trans (sD _) (aD _)).trans (xN _ (fun k hk => a k (cD hk)) _ _) (by omega)
 split
 ·have h1 := hc.one (by simp [*])
  have h2 := EZ h1
  rw [h2, cO] at b
  have h3 : ∀ (P : EP) (s : ES), Gr F (2 * szs (t.kids.drop 1)) s ((t.kids.drop 1).foldl (fun s k => nW N k P s) s) := fun P s => by
   rw [← pM]
   exact oC _ _ fun k hk s => xM k (a k (cD hk)) P s
  exact (a _ (eH (by omega)) _ _).trans (h3 _ _) (by omega)
 split
 ·have h1 := hc.one (by simp [*])
  have h2 := EZ h1
  rw [h2, cO] at b
  exact ((rD _ _ _ _ _).trans (lD _ _ _ _) (aD _)).trans (xM _ (a _ (eH (by omega))) _ _) (by omega)
 ·exact aI1 t a _ _
theorem MS (a : ∀ t, q t → Kc t ∧ ¬F t.s) : ∀ (f : Nat) (t : T), eK q t → (∀ p s, Gr F (2 * t.size) s ((nbE wd f).1 t p s)) ∧ ∀ p d s, Gr F (2 * t.size) s ((nbE wd f).2 t p d s)
 | 0, t, _ => ⟨fun _ s => Gr.refl s, fun _ _ s => Gr.refl s⟩
 | f + 1, t, ht => ⟨fun p s => aI2 a t ht (fun k hk _ => (MS a f k hk).1) (fun k hk _ => (MS a f k hk).2) p s,
     fun p d s => aI7 a t ht (fun k hk => (MS a f k (ht.kid hk)).1) (fun k hk => (MS a f k (ht.kid hk)).2) p d s⟩
end
end
end Go.Proofs.YtlllalmkkaolfaaGreatDoor
namespace Go.Vcg
open Go.RowKit Go.MapKept
section
variable {P : Program} {X : Ctx} {ops : Array Oper} {Q : Exit → Act → World → Prop} {rest : List Oper} {μ : Mem} {l : bP} {L : List Bk} {w : World}
variable {ty : TypeId} {pos : String} {af : Array Edge} {gd : Option (Nat × Bool)}
theorem tK {t kt et : TypeId} {dk : TypeDesc} {b ck i : Nat} {es : List MapEntry} {k v old : Value} (ht : P.underlying t = some (.map kt et)) (hk : P.underlying kt = some dk) (a : IsKey dk k)
 (hb : w.heap[b]? = some (.map es.toArray ck)) (hf : Instr.findNow dk k es 0 = some (some (i, old))) (he : (es[i]?).map (·.key) = some k) : (Instr.mapUpdate t (.map (some b)) k v).run P w = .ok () { w with heap := w.heap.setIfInBounds b (.map (es.modify i fun e => { e with key := k, val := v }).toArray ck) } := by
 have h1 : (((es.toArray[i]?).map (·.key)).getD k) = k := by
  rw [fA, he]; rfl
 simp [Instr.mapUpdate, run_underlying ht, MapKept.run_getObj_map hb, MapKept.run_checkKey hk a, MapKept.run_findKey hk hf, MapKept.run_setObj_map _ hb]
 rw [fA] at h1
 simp only [h1]
 rw [MapKept.run_keyThatStays a]
 simp [MapKept.run_setObj_map _ hb]
theorem JC {t kt et : TypeId} {dk : TypeDesc} {m k x : Operand} {b ck i0 : Nat} {es : List MapEntry} {kv v old : Value} {F : Mp → List Bk} {op : Op} (f : op = .insert t m k x ∨ op = .mapUpdate t m k x) (hw : gQ ops l ⟨none, op, ty, pos, af, gd⟩ = some true) (hm : ev l m = some (.map (some b))) (hk : ev l k = some kv) (j : ev l x = some v)
 (ht : P.underlying t = some (.map kt et)) (g : P.underlying kt = some dk) (d : IsKey dk kv) (hu : UpM L b ⟨b, es, ck⟩ F) (hf : Instr.findNow dk kv es 0 = some (some (i0, old))) (he : (es[i0]?).map (·.key) = some kv)
 (h : G P X ops Q rest μ l (F ⟨b, es.modify i0 fun e => { e with key := kv, val := v }, ck⟩)) : G P X ops Q (⟨none, op, ty, pos, af, gd⟩ :: rest) μ l L :=
 xS hw fun a w hs => by
  obtain ⟨i, hi, _, o⟩ := hu
  have hb : w.heap[b]? = some (.map es.toArray ck) := hs.own _ (eS hi)
  have e1 := hs.eval hm; have e2 := hs.eval hk; have e3 := hs.eval j
  have e : (execOp a.eval ⟨none, op, ty, pos, af, gd⟩).run P w = .ok .skip { w with heap := w.heap.setIfInBounds b (.map (es.modify i0 fun e => { e with key := kv, val := v }).toArray ck) } := by
   generalize a.eval = ρ at e1 e2 e3
   rcases f with rfl | rfl <;> simp [execOp, e1, e2, e3, tK ht g d hb hf he]
  unfold Oper.wp
  rw [e, Oper.upon_skip]
  have hlt := (Array.getElem?_eq_some_iff.1 hb).1
  have := hs.upd hi (y := .mp ⟨b, es.modify i0 fun e => { e with key := kv, val := v }, ck⟩) (w' := { w with heap := w.heap.setIfInBounds b (.map (es.modify i0 fun e => { e with key := kv, val := v }).toArray ck) }) rfl rfl rfl (by simp)
   (fun c hc hne => by
     have : b ≠ c := fun e => hne (by rw [e]; rfl)
     simp [cZ this])
   (by show (w.heap.setIfInBounds b _)[b]? = _; rw [cJ hlt])
   (fun c hc => .inl hc)
  rw [o] at h
  exact h _ _ this
end
theorem GP {X : Ctx} {Q : Exit → Act → World → Prop} {μ : Mem} {l : bP} {L : List Bk} {ex : Exit} {b ck ck' : Nat} {es es' : List MapEntry} (i : Nat) (hi : gT L i = some (.mp ⟨b, es, ck⟩)) (he : es = es') (hc : ck = ck') (h : GQ X Q ex μ l (fD L i (.mp ⟨b, es', ck'⟩))) : GQ X Q ex μ l L := by
 subst he hc
 rw [NX hi] at h
 exact h
end Go.Vcg
namespace Go.Proofs.YtlllalmkkaolfaaGreatDoor
open Go.RowKit Go.Vcg Go.MapKept
theorem SN {P : Program} {et : TypeId} (a : nE P et = some (.slice none 0 0)) (x : ByteArray) (fs : List FR) : ∃ ok, pH P et (Instr.findNow .string (.string x) (mkD fs 0) 0) = some ((match xK x fs 0 with | some (_, f) => f.v | none => .slice none 0 0), ok) := by
 rw [JH]
 cases xK x fs 0 with
 | none => exact ⟨false, by simp [pH, a]⟩
 | some p => exact ⟨true, rfl⟩
def DsV (μ : Mem) (v : Value) (ds : List (ED × Value)) : Prop := ∃ A c, v = .slice A ds.length c ∧ Sl pX 4 μ A ds.length ds
theorem aPa (l : List (ED × Value)) : (l.flatMap pX).length = l.length * 4 := mH (enc := pX) (s := 4) (fun _ => rfl) l
theorem DsV.mM {μ : Mem} {f : FR} (h : Bk.sh (JL f) μ) : DsV μ f.v f.ds := by
 obtain ⟨k, v, ds⟩ := f
 obtain ⟨A, c, e, a⟩ := sT (enc := pX) (xs := ds) h rfl (by simp) rfl
 dsimp only at e a ⊢
 subst e
 exact ⟨A, c, rfl, a⟩
attribute [local irreducible] wdL anI mP mkD G GC GQ GA eN Calls IntKind.wrap Int.decLt Int.decLe
theorem TF (f : FuncId) (cap : List Value) (q1 : ED → Bool) (l : List (ED × Value)) (A : Option Addr) (n c : Nat) (w : World) (μ : Mem) (hμ : MOk μ w) (aa : gX Tryz.prog f = true) (hS : Sl pX 4 μ A n l) (v : ∀ p ∈ l, p.2.oneCell' = true) (hn : n ≤ 1000000) (z : ∀ (o : ED × Value) (w : World) (μ' : Mem), o ∈ l → MOk μ' w → MLe μ μ' → Calls Tryz.prog f ([Value.agg (pX o).toArray] ++ cap).toArray w fun e w' => e = .returned (.bool (q1 o.1)) ∧ Below w.heap.size w w') :
 aV 173 #[.slice A n c, .func (.func f) #[] cap.toArray] w (.int .i64 (firstT (l.map fun o => q1 o.1))) := by
 refine aE (args := [.slice A n c, .func (.func f) #[] cap.toArray]) Tryz.func173 rfl Tryz.ntmps173 (by simp) hμ ?_
 have x : l.length = n := hS.1
 have ab : (l.map fun o => q1 o.1).length = n := by rw [aH]; exact x
 try repeat' (refine KZ ?_)
 refine bW (ι := Nat) (fun k => k ≤ n ∧ ∀ (j : Nat) (q : Bool), j < k → (l.map fun o => q1 o.1)[j]? = some q → q = false) (fun k => n - k) (fun _ => μ) (fun k => [(8, .int .i64 k), (7, .int .i64 n), (6, .slice A n c), (0, .slice A n c), (1, .func (.func f) #[] cap.toArray)]) (fun _ => []) 0 ⟨by omega, fun j _ h => absurd h (by omega)⟩ (fun a w hs => J5 hs) ?_
 rintro k ⟨hk, hf⟩
 by_cases hlt : k < n
 ·obtain ⟨ad, o, rfl, ho, hm⟩ := hS.get hlt
  have i : (l.map fun o => q1 o.1)[k]? = some (q1 o.1) := by rw [aN, ho]; rfl
  have hc := fun w μc hw (hle : MLe μ μc) => z o w μc (aB ho) hw hle
  have ae := v o (aB ho)
  generalize q1 o.1 = q at i hc
  obtain ⟨d, dv⟩ := o
  have t : eM μ (ad.add (k * 4)) [.bool d.lex, dv, .int .i64 d.par, .bool d.twice] := hm
  have r : q = false → ∀ (j : Nat) (q : Bool), j < k + 1 → (l.map fun o => q1 o.1)[j]? = some q → q = false := fun h j p y u => by
   rcases cY j k with h1 | h1
   ·exact hf j p h1 u
   ·obtain rfl : j = k := by omega
    rw [i] at u
    cases u
    exact h
  cases q
  ·have hb := r rfl
   try repeat' (first | refine KO ?_ | ((with_reducible apply C1); exact rfl; exact EN; exact fun w μc hw g => hc w μc hw g.le) | (refine KV (b := by first | exact U1 k | exact U4 t) (c := ?_)) | refine KZ ?_)
   all_goals exact J2 (k + 1) ⟨by omega, hb⟩ (by omega)
  ·try repeat' (first | refine KO ?_ | ((with_reducible apply C1); exact rfl; exact EN; exact fun w μc hw g => hc w μc hw g.le) | (refine KV (b := by first | exact U1 k | exact U4 t) (c := ?_)))
   all_goals refine aJ rfl rfl ?_
   all_goals rw [qR i hf]
 ·try repeat' (refine KZ ?_)
  refine aJ rfl rfl ?_
  rw [nU (fun j q y => hf j q (by have := (List.getElem?_eq_some_iff.1 y).1; omega) y)]
theorem JU (f : FuncId) (cap : List Value) (q1 : ED → Bool) (l : List (ED × Value)) (v : Value) (w : World) (μ : Mem) (hμ : MOk μ w) (b : gX Tryz.prog f = true) (hv : DsV μ v l) (d : ∀ p ∈ l, p.2.oneCell' = true) (hn : l.length ≤ 1000000) (g : ∀ (o : ED × Value) (w : World) (μ' : Mem), o ∈ l → MOk μ' w → MLe μ μ' → Calls Tryz.prog f ([Value.agg (pX o).toArray] ++ cap).toArray w fun e w' => e = .returned (.bool (q1 o.1)) ∧ Below w.heap.size w w') :
 aV 163 #[v, .func (.func f) #[] cap.toArray] w (.bool ((l.map (·.1)).any q1)) := by
 obtain ⟨A, c, rfl, i⟩ := hv
 refine aE (args := [.slice A l.length c, .func (.func f) #[] cap.toArray]) Tryz.func163 rfl Tryz.ntmps163 (by simp) hμ ?_
 have h : decide (0 ≤ firstT (l.map fun o => q1 o.1)) = (l.map (·.1)).any q1 := by rw [pA, hH, hH]; rfl
 rw [← h]
 try repeat' (first | refine KO ?_ | ((with_reducible apply C1); exact rfl; exact EN; exact fun w μc hw a => TF f cap q1 l A l.length c w μc hw b (i.mono a.le) d hn (fun o w μ' h1 h2 h3 => g o w μ' h1 h2 (a.le.trans h3))))
 exact aJ rfl rfl rfl
theorem LD (a d : ED) (av dv : Value) (bc : Nat) (w : World) (μ : Mem) (hμ : MOk μ w) (i : IsV μ av a.ins) (hd : IsV μ dv d.ins) (h : a.ins.length ≤ 100000) (hl : d.ins.length ≤ 100000) (hm : eM μ ⟨bc, 0, none⟩ (pX (d, dv))) :
 Calls Tryz.prog 164 ([Value.agg (pX (a, av)).toArray] ++ [Value.pointer (some ⟨bc, 0, none⟩)]).toArray w fun e w' => e = .returned (.bool (nV a d)) ∧ Below w.heap.size w w' := by
 have oa := i.one
 have od := hd.one
 refine aE (args := [.agg (pX (a, av)).toArray, .pointer (some ⟨bc, 0, none⟩)]) Tryz.func164 rfl Tryz.ntmps164 (by simp) hμ ?_
 have g : eM μ (Addr.mk bc 0 none) [.bool d.lex, dv, .int .i64 d.par, .bool d.twice] := hm
 try repeat' (first | refine KO ?_ | ((with_reducible apply C1); exact rfl; exact EN; exact fun w μc hw f => YD a d av dv w μc hw (i.mono f.le) (hd.mono f.le) h hl) | (refine KV (b := by ((with_reducible apply HB); (iterate 3 exact rfl); exact g; exact rfl)) (c := ?_)) | refine KZ ?_ | refine NB fun b => ?_)
 exact aJ rfl rfl rfl
theorem aGf {fs : List FR} {f : FR} (h : f ∈ fs) : JL f ∈ mP fs := by unfold mP; exact eT h
theorem vY (xb mb : Nat) (t : T) (u : Value) (hu : u.oneCell' = true) (x : ByteArray) (d : ED) (dv : Value) (s : ES) (μ : Mem) (hd : IsV μ dv d.ins) (an : d.ins.length ≤ 100000) (ay : AK s.names ≤ 1000000) :
 CEs 139 [.pointer (some ⟨xb, 0, none⟩), .agg (aY t u).toArray, .string x, .agg (pX (d, dv)).toArray] xb mb s (uW t.at' x d s) μ := by
 intro w fs hμ hR hO
 have ai := dJ hO.diff
 have od := hd.one
 obtain ⟨ok, a⟩ := SN (P := Tryz.prog) (et := 169) (by kernel_rfl) x fs
 have r := JB (x := x) (fs := fs) (i := 0)
 rw [← hR.1] at r
 have az := aAa x s.names
 obtain ⟨ds, lv, av, aq, al, ax⟩ : ∃ (ds : List (ED × Value)) (lv : Value), (match xK x fs 0 with | some (_, f) => f.v | none => .slice none 0 0) = lv ∧ ds.map (·.1) = oL x s.names ∧ (∀ p ∈ ds, IsV μ p.2 p.1.ins ∧ p.1.ins.length ≤ 100000) ∧ (∀ μc, MLe μ μc → (∀ y ∈ mP fs, Bk.sh y μc) → DsV μc lv ds) := by
  cases k : xK x fs 0 with
  | none =>
    rw [k] at r
    exact ⟨[], _, rfl, r.symm, fun p hp => by simp at hp, fun μc _ _ => ⟨none, 0, rfl, Sl.nil _ _ _ _⟩⟩
  | some pf =>
    obtain ⟨p, f⟩ := pf
    rw [k] at r
    obtain ⟨-, h2, -⟩ := CH k
    have hf := aB h2
    exact ⟨f.ds, _, rfl, r.symm, hR.2 f hf, fun μc _ h => DsV.mM (h _ (aGf hf))⟩
 rw [av] at a
 have aw : ds.length ≤ 1000000 := by
  have g := congrArg List.length aq
  rw [aH] at g
  omega
 have ae := fun (b : Nat) (w : World) (μc : Mem) (hw : MOk μc w) (hle : MLe μ μc) (au : ∀ y ∈ mP fs, Bk.sh y μc) (hc : eM μc ⟨b, 0, none⟩ (pX (d, dv))) => JU 164 [.pointer (some ⟨b, 0, none⟩)] (fun o => nV o d) ds lv w μc hw (by kernel_rfl) (ax μc hle au) (fun p hp => (al p hp).1.one) aw (fun o w μ' h1 h2 h3 => LD o.1 d o.2 dv b w μ' h2 ((al o h1).1.mono (hle.trans h3)) (hd.mono (hle.trans h3)) (al o h1).2 an (hc.mono h3))
 rw [aq] at ae
 generalize aa : uW t.at' x d s = s'
 unfold uW at aa
 dsimp only at aa
 generalize hq : ((oL x s.names).any fun o => nV o d) = q at ae aa
 rw [wB] at aa
 have af := wB q t.at' 30 s
 refine cC (args := [.pointer (some ⟨xb, 0, none⟩), .agg (aY t u).toArray, .string x, .agg (pX (d, dv)).toArray]) Tryz.func139 rfl Tryz.ntmps139 (by simp) hμ hO ?_
 refine kV (aAx xb mb s fs) ?_
 try repeat' (first | refine KZ ?_ | refine NB fun b => ?_)
 refine aT 11 _ (by kernel_rfl) rfl (dG (aC aQ)) ?_
 all_goals (refine DD 0 ?_; refine DD 1 ?_; refine DD 2 ?_; refine DD 3 ?_; refine D1 4 ?_; refine DD 6 ?_; refine DD 8 ?_)
 all_goals (refine D3 5 ?_; (with_reducible apply iW); (iterate 4 exact rfl); (((with_reducible apply wP); exact rfl; (repeat first | with_reducible exact fO | with_reducible apply oK); exact rfl)))
 all_goals (refine D3 7 ?_; (with_reducible apply iW); (iterate 4 exact rfl); (((with_reducible apply nM); (iterate 4 exact rfl); exact trivial; (repeat first | with_reducible exact qN | with_reducible apply qM); exact a)))
 all_goals (refine D3 9 ?_; refine D5 ?_; (((with_reducible apply F1 163); exact rfl; exact EN; exact fun w μc hw aj => ae _ w μc hw aj.le (fun y hy => aj.own y (by repeat (first | exact hy | apply cV))) (HH aj.hd (fun j v hj => rA hj)))); refine D9 ?_)
 all_goals (refine D3 10 ?_; refine D5 ?_; (refine CF 106 ?_; refine iR 2 rfl rfl rfl EN rfl hR (pU xb mb t _ hu _ _ _ _) ?_; intro v1 μ1 i1 ag hR; dsimp only [aL, aP]); refine D9 ?_)
 all_goals refine D8 ?_
 try repeat' (refine KZ ?_)
 generalize jC q t.at' 30 s = s1 at aa hR af ⊢
 refine kV (show _ = _ :: _ :: Bk.inl ⟨xb, 95, 4, [(0, .map (some mb)), (1, .int .i64 (s1.regs : Int)), (2, .int .i64 s1.at'), (3, .int .i64 s1.e)]⟩ :: .mp ⟨mb, mkD i1 0, i1.length⟩ :: mP i1 from rfl) ?_
 obtain ⟨ok2, a⟩ := SN (P := Tryz.prog) (et := 169) (by kernel_rfl) x i1
 have c := JB (x := x) (fs := i1) (i := 0)
 rw [← hR.1, af] at c
 have z := JH x i1 0 0
 cases k : xK x i1 0 with
 | some pf =>
   obtain ⟨p, f⟩ := pf
   rw [k] at a c z
   dsimp only [Option.map] at a c z
   obtain ⟨-, ad, ah⟩ := CH k
   rw [dI] at ad
   have ao := (List.getElem?_eq_some_iff.1 ad).1
   have a1 : f.ds.length ≤ 1000000 := by
    have g := congrArg List.length c
    rw [aH] at g
    omega
   refine pP (kF (F := [_, _, _, _]) (aGh ad)) ?_
   obtain ⟨R, ar⟩ : ∃ R, (mP i1).eraseIdx p = R := ⟨_, rfl⟩
   rw [ar]
   dsimp only [aL, aP, JL]
   have e2 := aPa f.ds
   have e3 : ∀ v, (mkD i1 0).modify p (fun e => { e with key := .string x, val := v }) = mkD (i1.set p ⟨x, v, f.ds ++ [(d, dv)]⟩) 0 ∧ ((mkD i1 0)[p]?).map (·.key) = some (.string x) := fun v => ZR i1 0 p f ⟨x, v, f.ds ++ [(d, dv)]⟩ ad ah.symm
   have ap := (e3 undef).2
   refine aT 15 _ (by kernel_rfl) rfl (dG (aC (dG (aC aQ)))) ?_
   all_goals (refine DD 0 ?_; refine DD 1 ?_; refine D1 2 ?_; refine DD 3 ?_; refine DD 4 ?_; refine DD 5 ?_; refine DD 6 ?_; refine D1 7 ?_; refine DD 8 ?_; refine DD 9 ?_; refine DD 11 ?_)
   refine iF 10 12 (by kernel_rfl) ?dr3_10 ?dr3_12
   case' dr3_10 =>
    (((with_reducible apply iW); (iterate 4 exact rfl); (((with_reducible apply nM); (iterate 4 exact rfl); exact trivial; (repeat first | with_reducible exact qN | with_reducible apply qM); exact a))))
    all_goals (refine D3 12 ?_; refine D5 ?_; refine NB fun b => ?_; refine D9 ?_)
    all_goals (refine D3 13 ?_; refine D5 ?_; (((with_reducible apply oZ); (iterate 3 exact rfl); (repeat first | with_reducible exact fE | with_reducible apply fV); (iterate 6 exact rfl); (((with_reducible apply jS); exact rfl; (repeat with_reducible exact fO); exact rfl)); exact rfl; exact gB (by (repeat first | with_reducible exact fS | ((with_reducible apply eY); (first | exact rfl | assumption)))); omega; omega; intro v)); refine D9 ?_)
    all_goals (refine D3 14 ?_; refine D5 ?_; (with_reducible apply JC); exact .inr rfl; (iterate 6 exact rfl); exact trivial; (repeat first | with_reducible exact sO | with_reducible apply tZ); exact z; exact ap; refine D9 ?_)
    all_goals refine D8 ?_
   case' dr3_12 =>
    (refine D5 ?_; refine NB fun b => ?_; refine D9 ?_)
    all_goals (refine D3 10 ?_; (with_reducible apply iW); (iterate 4 exact rfl); (((with_reducible apply nM); (iterate 4 exact rfl); exact trivial; (repeat first | with_reducible exact qN | with_reducible apply qM); exact a)))
    all_goals (refine D3 13 ?_; refine D5 ?_; (((with_reducible apply oZ); (iterate 3 exact rfl); (repeat first | with_reducible exact fE | with_reducible apply fV); (iterate 6 exact rfl); (((with_reducible apply jS); exact rfl; (repeat with_reducible exact fO); exact rfl)); exact rfl; exact gB (by (repeat first | with_reducible exact fS | ((with_reducible apply eY); (first | exact rfl | assumption)))); omega; omega; intro v)); refine D9 ?_)
    all_goals (refine D3 14 ?_; refine D5 ?_; (with_reducible apply JC); exact .inr rfl; (iterate 6 exact rfl); exact trivial; (repeat first | with_reducible exact sO | with_reducible apply tZ); exact z; exact ap; refine D9 ?_)
    all_goals refine D8 ?_
   all_goals refine gL (L' := _ :: _ :: _ :: R) (dR (.refl _) (LP (.refl _) (LP (.refl _) (bS _ (bS _ (bS _ (fL _))))))) ?_
   all_goals refine GP (es' := mkD (i1.set p ⟨x, v, f.ds ++ [(d, dv)]⟩) 0) (ck' := (i1.set p ⟨x, v, f.ds ++ [(d, dv)]⟩).length) 2 rfl (e3 v).1 (by rw [fH]) ?_
   all_goals refine gC (n' := (f.ds ++ [(d, dv)]).length) (xs' := (f.ds ++ [(d, dv)]).flatMap pX) 0 rfl (by simp) (by rw [cG]; rfl) ?_
   all_goals dsimp only [fD]
   all_goals refine lR (L' := .inl ⟨xb, 95, 4, [(0, .map (some mb)), (1, .int .i64 (s1.regs : Int)), (2, .int .i64 s1.at'), (3, .int .i64 s1.e)]⟩ :: .mp ⟨mb, mkD (i1.set p ⟨x, v, f.ds ++ [(d, dv)]⟩) 0, (i1.set p ⟨x, v, f.ds ++ [(d, dv)]⟩).length⟩ :: mP (i1.set p ⟨x, v, f.ds ++ [(d, dv)]⟩)) (by rw [aGd, ← ar]; exact wY (F := [_, _]) _ (by rw [aGg]; exact ao)) ?_
   all_goals exact gI (s := { names := vL x (oL x s.names ++ [d]) s.names, regs := s1.regs, at' := s1.at', e := s1.e }) 0 (i1.set p ⟨x, v, f.ds ++ [(d, dv)]⟩) (.inr rfl) ai rfl rfl aa ⟨by
    show vL x (oL x s.names ++ [d]) s.names = _
    have g := RO (v := v) (ds := f.ds ++ [(d, dv)]) (l := oL x s.names ++ [d]) k (by rw [c, bI]; rfl)
    rw [dI, ah, ← hR.1, af] at g
    exact g, fun f' ak d' ab => by
    rcases List.mem_or_eq_of_mem_set ak with g | g
    ·exact hR.2 f' g d' ab
    ·subst g
     rcases List.mem_append.1 ab with g | g
     ·exact hR.2 f (aB ad) d' g
     ·rw [aR.1 g]
      exact ⟨hd.mono ag, an⟩⟩
 | none =>
   rw [k] at a c z
   dsimp only [Option.map] at a c z
   refine aT 15 _ (by kernel_rfl) rfl (aC (dG (aC aQ))) ?_
   all_goals (refine DD 0 ?_; refine DD 1 ?_; refine D1 2 ?_; refine DD 3 ?_; refine DD 4 ?_; refine DD 5 ?_; refine DD 6 ?_; refine D1 7 ?_; refine DD 8 ?_; refine DD 9 ?_; refine DD 11 ?_)
   refine iF 10 12 (by kernel_rfl) ?dr4_10 ?dr4_12
   case' dr4_10 =>
    (((with_reducible apply iW); (iterate 4 exact rfl); (((with_reducible apply nM); (iterate 4 exact rfl); exact trivial; (repeat first | with_reducible exact qN | with_reducible apply qM); exact a))))
    all_goals (refine D3 12 ?_; refine D5 ?_; refine NB fun b => ?_; refine D9 ?_)
    all_goals (refine D3 13 ?_; refine D5 ?_; (((with_reducible apply MV); (iterate 9 exact rfl); (((with_reducible apply jS); exact rfl; (repeat with_reducible exact fO); exact rfl)); exact rfl; exact gB (by (repeat first | with_reducible exact fS | ((with_reducible apply eY); (first | exact rfl | assumption)))); omega; omega; intro v)); refine D9 ?_)
    all_goals (refine D3 14 ?_; refine D5 ?_; (with_reducible apply CN); exact .inr rfl; (iterate 6 exact rfl); exact trivial; (repeat first | with_reducible exact sO | with_reducible apply tZ); exact z; refine D9 ?_)
    all_goals refine D8 ?_
   case' dr4_12 =>
    (refine D5 ?_; refine NB fun b => ?_; refine D9 ?_)
    all_goals (refine D3 10 ?_; (with_reducible apply iW); (iterate 4 exact rfl); (((with_reducible apply nM); (iterate 4 exact rfl); exact trivial; (repeat first | with_reducible exact qN | with_reducible apply qM); exact a)))
    all_goals (refine D3 13 ?_; refine D5 ?_; (((with_reducible apply MV); (iterate 9 exact rfl); (((with_reducible apply jS); exact rfl; (repeat with_reducible exact fO); exact rfl)); exact rfl; exact gB (by (repeat first | with_reducible exact fS | ((with_reducible apply eY); (first | exact rfl | assumption)))); omega; omega; intro v)); refine D9 ?_)
    all_goals (refine D3 14 ?_; refine D5 ?_; (with_reducible apply CN); exact .inr rfl; (iterate 6 exact rfl); exact trivial; (repeat first | with_reducible exact sO | with_reducible apply tZ); exact z; refine D9 ?_)
    all_goals refine D8 ?_
   all_goals refine gL (L' := _ :: _ :: _ :: mP i1) (eV (.refl _) (LP (.refl _) (LP (.refl _) (bS _ (bS _ (bS _ (fL _))))))) ?_
   all_goals refine GP (es' := mkD (i1 ++ [(⟨x, v, [(d, dv)]⟩ : FR)]) 0) (ck' := (i1 ++ [(⟨x, v, [(d, dv)]⟩ : FR)]).length) 2 rfl (by rw [ZS, bB]) (by simp) ?_
   all_goals dsimp only [fD]
   all_goals refine lR (L' := .inl ⟨xb, 95, 4, [(0, .map (some mb)), (1, .int .i64 (s1.regs : Int)), (2, .int .i64 s1.at'), (3, .int .i64 s1.e)]⟩ :: .mp ⟨mb, mkD (i1 ++ [(⟨x, v, [(d, dv)]⟩ : FR)]) 0, (i1 ++ [(⟨x, v, [(d, dv)]⟩ : FR)]).length⟩ :: mP (i1 ++ [(⟨x, v, [(d, dv)]⟩ : FR)])) (by rw [aGi]; exact dE _ (_ :: _ :: mP i1)) ?_
   all_goals exact gI (s := { names := vL x (oL x s.names ++ [d]) s.names, regs := s1.regs, at' := s1.at', e := s1.e }) 0 (i1 ++ [(⟨x, v, [(d, dv)]⟩ : FR)]) (.inr rfl) ai rfl rfl aa ⟨by
    show vL x (oL x s.names ++ [d]) s.names = _
    have g := RP (v := v) (ds := [(d, dv)]) (l := oL x s.names ++ [d]) k (by rw [c]; rfl)
    rw [← hR.1, af] at g
    exact g, fun f' ak d' ab => by
    rcases List.mem_append.1 ak with g | g
    ·exact hR.2 f' g d' ab
    ·rw [aR.1 g] at ab
     rw [aR.1 ab]
     exact ⟨hd.mono ag, an⟩⟩
end Go.Proofs.YtlllalmkkaolfaaGreatDoor
namespace Go.Vcg
open Go.RowKit Go.MapKept
def kvE (e : MapEntry) : Value × Value := (e.key, e.val)
def pW {κ α : Type} [DecidableEq κ] (k : κ) : List (κ × α) → Nat → Option (Nat × α)
 | [], _ => none
 | (a, x) :: r, i => if k = a then some (i, x) else pW k r (i + 1)
def oS {κ α : Type} [DecidableEq κ] (k : κ) (M : List (κ × α)) : Option α := (pW k M 0).map (·.2)
def kM {κ α : Type} [DecidableEq κ] (k : κ) (v : α) : List (κ × α) → List (κ × α)
 | [] => [(k, v)]
 | (a, x) :: r => if k = a then (a, v) :: r else (a, x) :: kM k v r
def zN {κ α : Type} [DecidableEq κ] (k : κ) : List (κ × α) → List (κ × α)
 | [] => []
 | (a, x) :: r => if k = a then r else (a, x) :: zN k r
section
variable {κ α : Type} [DecidableEq κ]
theorem rL {k : κ} : ∀ {M : List (κ × α)} {i p : Nat} {x : α}, pW k M i = some (p, x) → i ≤ p ∧ M[p - i]? = some (k, x)
 | [], _, _, _, h => by cases h
 | (a, y) :: r, i, p, x, h => by
   unfold pW at h
   split at h
   ·rename_i hk
    cases h
    subst hk
    exact ⟨aD _, by rw [dN]; rfl⟩
   ·obtain ⟨h1, h2⟩ := rL h
    refine ⟨by omega, ?_⟩
    rw [show p - i = (p - (i + 1)) + 1 by omega, bG]
    exact h2
theorem HV {k : κ} {v : α} : ∀ {M : List (κ × α)} {i p : Nat} {x : α}, pW k M i = some (p, x) → kM k v M = M.set (p - i) (k, v)
 | [], _, _, _, h => by cases h
 | (a, y) :: r, i, p, x, h => by
   unfold pW at h
   unfold kM
   split at h
   ·rename_i hk
    cases h
    rw [if_pos hk, dN, iL, hk]
   ·rename_i hk
    obtain ⟨h1, -⟩ := rL h
    rw [if_neg hk, HV h, show p - i = (p - (i + 1)) + 1 by omega, jY]
theorem HW {k : κ} {v : α} : ∀ {M : List (κ × α)} {i : Nat}, pW k M i = none → kM k v M = M ++ [(k, v)]
 | [], _, _ => rfl
 | (a, y) :: r, i, h => by
   unfold pW at h
   unfold kM
   split at h
   ·cases h
   ·rename_i hk
    rw [if_neg hk, HW h]
    rfl
theorem UI {k : κ} : ∀ {M : List (κ × α)} {i p : Nat} {x : α}, pW k M i = some (p, x) → zN k M = M.eraseIdx (p - i)
 | [], _, _, _, h => by cases h
 | (a, y) :: r, i, p, x, h => by
   unfold pW at h
   unfold zN
   split at h
   ·rename_i hk
    cases h
    rw [if_pos hk, dN]
    rfl
   ·rename_i hk
    obtain ⟨h1, -⟩ := rL h
    rw [if_neg hk, UI h, show p - i = (p - (i + 1)) + 1 by omega]
    rfl
theorem NI {k : κ} : ∀ {M : List (κ × α)} {i : Nat}, pW k M i = none → zN k M = M
 | [], _, _ => rfl
 | (a, y) :: r, i, h => by
   unfold pW at h
   unfold zN
   split at h
   ·cases h
   ·rename_i hk
    rw [if_neg hk, NI h]
end
def MpI {α : Type} (enc : α → Value) (es : List MapEntry) (M : List (Int × α)) : Prop := es.map kvE = M.map fun p => (Value.int .i64 p.1, enc p.2)
abbrev kP (p : Int × Int) : List Value := [.int .i64 p.1, .int .i64 p.2]
def MpP (es : List MapEntry) (M : List ((Int × Int) × Int)) : Prop := es.map kvE = M.map fun p => (Value.agg (kP p.1).toArray, Value.int .i64 p.2)
theorem PJ {α : Type} {enc : α → Value} (k : Int) : ∀ {es : List MapEntry} {M : List (Int × α)} (i : Nat), MpI enc es M → Instr.findNow (.int .i64) (.int .i64 k) es i = some ((pW k M i).map fun p => (p.1, enc p.2))
 | [], [], i, _ => by simp [Instr.findNow, pW]
 | [], _ :: _, _, h => by simp [MpI] at h
 | _ :: _, [], _, h => by simp [MpI] at h
 | e :: es, (a, x) :: M, i, h => by
   obtain ⟨ek, ev, st⟩ := e
   simp only [MpI, aO, iH, kvE, cM] at h
   obtain ⟨⟨rfl, rfl⟩, h2⟩ := h
   have ih := PJ k (enc := enc) (M := M) (i + 1) h2
   unfold Instr.findNow pW
   by_cases hk : k = a
   ·subst hk
    simp [Instr.sameNow]
   ·have hb : (k == a) = false := beq_eq_false_iff_ne.2 hk
    simp [Instr.sameNow, hk, ih, hb]
theorem XL (k : Int × Int) : ∀ {es : List MapEntry} {M : List ((Int × Int) × Int)} (i : Nat), MpP es M → sY (kP k) es i = some ((pW k M i).map fun p => (p.1, Value.int .i64 p.2))
 | [], [], i, _ => by simp [sY, pW]
 | [], _ :: _, _, h => by simp [MpP] at h
 | _ :: _, [], _, h => by simp [MpP] at h
 | e :: es, (a, x) :: M, i, h => by
   obtain ⟨ek, ev, st⟩ := e
   obtain ⟨k1, k2⟩ := k
   obtain ⟨a1, a2⟩ := a
   simp only [MpP, aO, iH, kvE, cM] at h
   obtain ⟨⟨rfl, rfl⟩, h2⟩ := h
   have ih := XL (k1, k2) (M := M) (i + 1) h2
   have e1 : IG (kP (k1, k2)) (kP (a1, a2)) = true := rfl
   have e2 : BC (kP (k1, k2)) (kP (a1, a2)) = decide ((k1, k2) = (a1, a2)) := by
    simp [BC, eqV, cM, Bool.decide_and]
   unfold sY pW
   dsimp only
   simp only [e1, e2, ih]
   by_cases hk : (k1, k2) = (a1, a2)
   ·simp [hk]
   ·simp [hk]
theorem aE1 {P : Program} {et : TypeId} {α : Type} {enc : α → Value} {z : Value} (a : nE P et = some z) (k : Int) {es : List MapEntry} {M : List (Int × α)} (h : MpI enc es M) : ∃ ok, pH P et (Instr.findNow (.int .i64) (.int .i64 k) es 0) = some ((match oS k M with | some x => enc x | none => z), ok) := by
 rw [PJ k 0 h]
 unfold oS
 cases pW k M 0 with
 | none => exact ⟨false, by simp [pH, a]⟩
 | some p => exact ⟨true, rfl⟩
theorem aMi {P : Program} {et : TypeId} (a : nE P et = some (.int .i64 0)) (k : Int × Int) {es : List MapEntry} {M : List ((Int × Int) × Int)} (h : MpP es M) : pH P et (sY (kP k) es 0) = some (.int .i64 ((oS k M).getD 0), (oS k M).isSome) := by
 rw [XL k 0 h]
 unfold oS
 cases pW k M 0 with
 | none => simp [pH, a]
 | some p => rfl
theorem aE7 {es : List MapEntry} {p : Nat} {k v : Value} : (es.modify p fun e => { e with key := k, val := v }).map kvE = if p < es.length then (es.map kvE).set p (k, v) else es.map kvE := by
 apply dW
 intro i
 rw [aN, hG]
 by_cases hlt : p < es.length
 ·rw [if_pos hlt, iZ, aH, aN]
  by_cases a : p = i
  ·subst a
   rw [if_pos rfl, if_pos hlt, aA hlt]
   simp [kvE]
  ·rw [if_neg a]
   cases es[i]? <;> simp [a]
 ·rw [if_neg hlt, aN]
  by_cases a : p = i
  ·subst a
   rw [dL (by omega)]
   rfl
  ·cases es[i]? <;> simp [a]
section
variable {α : Type} {enc : α → Value}
theorem MpI.len {es : List MapEntry} {M : List (Int × α)} (h : MpI enc es M) : es.length = M.length := by
 have := congrArg List.length h
 simpa using this
theorem MpP.len {es : List MapEntry} {M : List ((Int × Int) × Int)} (h : MpP es M) : es.length = M.length := by
 have := congrArg List.length h
 simpa using this
theorem MpI.key {es : List MapEntry} {M : List (Int × α)} {p : Nat} {k : Int} {x : α} (h : MpI enc es M) (a : M[p]? = some (k, x)) : (es[p]?).map (·.key) = some (.int .i64 k) := by
 have h1 := congrArg (fun l => l[p]?) h
 simp only [aN, a, dY] at h1
 cases he : es[p]? with
 | none => rw [he] at h1; cases h1
 | some e =>
   rw [he] at h1
   simp only [dY, aM, kvE, cM] at h1 ⊢
   exact h1.1
theorem MpP.key {es : List MapEntry} {M : List ((Int × Int) × Int)} {p : Nat} {k : Int × Int} {x : Int} (h : MpP es M) (a : M[p]? = some (k, x)) : (es[p]?).map (·.key) = some (.agg (kP k).toArray) := by
 have h1 := congrArg (fun l => l[p]?) h
 simp only [aN, a, dY] at h1
 cases he : es[p]? with
 | none => rw [he] at h1; cases h1
 | some e =>
   rw [he] at h1
   simp only [dY, aM, kvE, cM] at h1 ⊢
   exact h1.1
theorem MpI.set {es : List MapEntry} {M : List (Int × α)} {p : Nat} {k : Int} {x y : α} (h : MpI enc es M) (a : pW k M 0 = some (p, x)) : MpI enc (es.modify p fun e => { e with key := .int .i64 k, val := enc y }) (kM k y M) := by
 have hg := rL a
 rw [dI] at hg
 have hlt := (List.getElem?_eq_some_iff.1 hg.2).1
 unfold MpI at *
 rw [aE7, if_pos (by rw [MpI.len (enc := enc) (M := M) h]; exact hlt), h, HV a, dI, iU]
theorem MpI.app {es : List MapEntry} {M : List (Int × α)} {k : Int} {y : α} {st : Nat} (h : MpI enc es M) (a : pW k M 0 = none) : MpI enc (es ++ [MapEntry.mk (.int .i64 k) (enc y) st]) (kM k y M) := by
 unfold MpI at *
 rw [bI, h, HW a, bI]
 rfl
theorem MpP.set {es : List MapEntry} {M : List ((Int × Int) × Int)} {p : Nat} {k : Int × Int} {x y : Int} (h : MpP es M) (a : pW k M 0 = some (p, x)) : MpP (es.modify p fun e => { e with key := .agg (kP k).toArray, val := .int .i64 y }) (kM k y M) := by
 have hg := rL a
 rw [dI] at hg
 have hlt := (List.getElem?_eq_some_iff.1 hg.2).1
 unfold MpP at *
 rw [aE7, if_pos (by rw [MpP.len (M := M) h]; exact hlt), h, HV a, dI, iU]
theorem MpP.app {es : List MapEntry} {M : List ((Int × Int) × Int)} {k : Int × Int} {y : Int} {st : Nat} (h : MpP es M) (a : pW k M 0 = none) : MpP (es ++ [MapEntry.mk (.agg (kP k).toArray) (.int .i64 y) st]) (kM k y M) := by
 unfold MpP at *
 rw [bI, h, HW a, bI]
 rfl
theorem uG {β γ : Type} (g : β → γ) : ∀ (l : List β) (i : Nat), (l.eraseIdx i).map g = (l.map g).eraseIdx i
 | [], _ => rfl
 | x :: r, 0 => rfl
 | x :: r, i + 1 => by simp [List.eraseIdx, uG g r i]
theorem MpI.del {es : List MapEntry} {M : List (Int × α)} {p : Nat} {k : Int} {x : α} (h : MpI enc es M) (a : pW k M 0 = some (p, x)) : MpI enc (es.eraseIdx p) (zN k M) := by
 unfold MpI at *
 rw [uG, h, UI a, dI, uG]
end
section
variable {P : Program} {X : Ctx} {ops : Array Oper} {Q : Exit → Act → World → Prop} {rest : List Oper} {μ : Mem} {l : bP} {L : List Bk} {w : World} {o : Oper} {d : Nat}
variable {ty : TypeId} {pos : String} {af : Array Edge} {gd : Option (Nat × Bool)} {ds : Option Nat}
theorem HA {t kt et : TypeId} {m k : Operand} {b ck : Nat} {es : List MapEntry} {xs : List Value} {v : Value} {ok : Bool} (hm : ev l m = some (.map (some b))) (hk : ev l k = some (.agg xs.toArray)) (ht : P.underlying t = some (.map kt et)) (d : oJ P kt xs = true)
 (hu : InM L b ⟨b, es, ck⟩) (hf : pH P et (sY xs es 0) = some (v, ok)) : Val P μ l L ⟨ds, .lookup t m k true, ty, pos, af, gd⟩ (.tuple #[v, .bool ok]) := fun a w hs => by
 obtain ⟨i, hi, _⟩ := hu
 have hb : w.heap[b]? = some (.map es.toArray ck) := hs.own _ (eS hi)
 have e1 := hs.eval hm; have e2 := hs.eval hk
 generalize a.eval = ρ at e1 e2
 simp [execOp, e1, e2, FP (c := true) ht d hb hf]
theorem AN {t kt et : TypeId} {b ck i : Nat} {es : List MapEntry} {xs : List Value} {v old : Value} (ht : P.underlying t = some (.map kt et)) (a : oJ P kt xs = true) (c : Instr.sameBits 10000 (.agg xs.toArray) (.agg xs.toArray) = true)
 (hb : w.heap[b]? = some (.map es.toArray ck)) (hf : sY xs es 0 = some (some (i, old))) (he : (es[i]?).map (·.key) = some (.agg xs.toArray)) : (Instr.mapUpdate t (.map (some b)) (.agg xs.toArray) v).run P w = .ok () { w with heap := w.heap.setIfInBounds b (.map (es.modify i fun e => { e with key := .agg xs.toArray, val := v }).toArray ck) } := by
 have h0 := sZ (w := w) a hf
 have h2 := fun e => qF (w := w) e a
 have h1 : (((es.toArray[i]?).map (·.key)).getD (.agg xs.toArray)) = .agg xs.toArray := by
  rw [fA, he]; rfl
 have h3 : (Instr.keyThatStays (.agg xs.toArray) (.agg xs.toArray)).run P w = .ok (.agg xs.toArray) w := by simp [Instr.keyThatStays, c]
 simp [Instr.mapUpdate, run_underlying ht, MapKept.run_getObj_map hb, h0, h2, MapKept.run_setObj_map _ hb]
 rw [fA] at h1
 simp only [h1]
 rw [h3]
 simp [MapKept.run_setObj_map _ hb]
end
end Go.Vcg
