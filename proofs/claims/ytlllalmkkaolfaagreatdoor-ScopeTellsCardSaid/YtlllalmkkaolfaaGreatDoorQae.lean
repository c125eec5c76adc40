/- Package early: the checker's own blocks, places and declarations in memory. -/
import Derived.Test.YtlllalmkkaolfaaGreatDoorQad
import Derived.RangeFuncLeaves
import Derived.OwnWalkIn
import Derived.RangeFuncCalls
import Derived.OrdersIn
import Derived.Test.YtlllalmkkaolfaaGreatDoorShelf
import Derived.KernelRfl
set_option maxRecDepth 20000
set_option maxHeartbeats 2000000
namespace Go.Vcg
open Go.RowKit
theorem fL : ∀ L : List Bk, Sel L L
 | [] => .nil _
 | x :: r => eV (jQ.refl x) (fL r)
theorem bS {L' L : List Bk} (y : Bk) (h : Sel L' L) : Sel L' (y :: L) := by
 induction h with
 | nil L => exact .nil _
 | cons h hr ih => exact Sel.cons (a := y :: _) h ih
end Go.Vcg
namespace Go.Proofs.YtlllalmkkaolfaaGreatDoor
section
open Go.RowKit Go.Vcg Go.MapKept
abbrev XR (i : Int) : List Value := [.int .i64 i]
def IsV (μ : Mem) (v : Value) (xs : List Int) : Prop := ∃ A c, v = .slice A xs.length c ∧ Sl XR 1 μ A xs.length xs ∧ xs.length ≤ c
def SsV (μ : Mem) (v : Value) (xs : List ByteArray) : Prop := ∃ A c, v = .slice A xs.length c ∧ Sl lV 1 μ A xs.length xs ∧ xs.length ≤ c
theorem IsV.mono {μ μ' : Mem} {v : Value} {xs : List Int} (h : IsV μ v xs) (hle : MLe μ μ') : IsV μ' v xs := by
 obtain ⟨A, c, e, h1, h2⟩ := h
 exact ⟨A, c, e, h1.mono hle, h2⟩
theorem SsV.mono {μ μ' : Mem} {v : Value} {xs : List ByteArray} (h : SsV μ v xs) (hle : MLe μ μ') : SsV μ' v xs := by
 obtain ⟨A, c, e, h1, h2⟩ := h
 exact ⟨A, c, e, h1.mono hle, h2⟩
theorem IsV.one {μ : Mem} {v : Value} {xs : List Int} (h : IsV μ v xs) : v.oneCell' = true := by obtain ⟨A, c, rfl, -⟩ := h; rfl
theorem SsV.one {μ : Mem} {v : Value} {xs : List ByteArray} (h : SsV μ v xs) : v.oneCell' = true := by obtain ⟨A, c, rfl, -⟩ := h; rfl
theorem IsV.nil (μ : Mem) : IsV μ (.slice none 0 0) [] := ⟨none, 0, rfl, Sl.nil _ _ _ _, aD _⟩
theorem SsV.nil (μ : Mem) : SsV μ (.slice none 0 0) [] := ⟨none, 0, rfl, Sl.nil _ _ _ _, aD _⟩
abbrev hZ (p : EP) (r lb lo mi : Value) : List Value := [.bool p.strict, .bool p.gen, .bool p.fn, .bool p.head, r, lb, lo, .bool p.loop, .bool p.choice, mi, .bool p.own, .bool p.each]
def PV (μ : Mem) (p : EP) (v : Value) : Prop := ∃ r lb lo mi, v = .agg (hZ p r lb lo mi).toArray ∧ IsV μ r p.regs ∧ SsV μ lb p.labels ∧ SsV μ lo p.loops ∧ SsV μ mi p.mine
theorem PV.mono {μ μ' : Mem} {p : EP} {v : Value} (h : PV μ p v) (hle : MLe μ μ') : PV μ' p v := by
 obtain ⟨r, lb, lo, mi, e, h1, h2, h3, h4⟩ := h
 exact ⟨r, lb, lo, mi, e, h1.mono hle, h2.mono hle, h3.mono hle, h4.mono hle⟩
abbrev pX (d : ED × Value) : List Value := [.bool d.1.lex, d.2, .int .i64 d.1.par, .bool d.1.twice]
structure FR where
 (key : ByteArray) (v : Value) (ds : List (ED × Value))
abbrev JL (f : FR) : Bk := .inr ⟨f.v, 131, 4, f.ds.length, f.ds.flatMap pX⟩
def mP (fs : List FR) : List Bk := fs.map JL
def mkD : List FR → Nat → List MapEntry
 | [], _ => []
 | f :: r, j => MapEntry.mk (.string f.key) f.v j :: mkD r (j + 1)
def xK (x : ByteArray) : List FR → Nat → Option (Nat × FR)
 | [], _ => none
 | f :: r, i => if x = f.key then some (i, f) else xK x r (i + 1)
def nmD (fs : List FR) : List (ByteArray × List ED) := fs.map fun f => (f.key, f.ds.map (·.1))
def EB (xb mb : Nat) (s : ES) (fs : List FR) : List Bk := .inl ⟨xb, 95, 4, [(0, .map (some mb)), (1, .int .i64 (s.regs : Int)), (2, .int .i64 s.at'), (3, .int .i64 s.e)]⟩ :: .mp ⟨mb, mkD fs 0, fs.length⟩ :: mP fs
def ER (μ : Mem) (fs : List FR) (s : ES) : Prop := s.names = nmD fs ∧ ∀ f ∈ fs, ∀ d ∈ f.ds, IsV μ d.2 d.1.ins ∧ d.1.ins.length ≤ 100000
theorem ER.mono {μ μ' : Mem} {fs : List FR} {s : ES} (h : ER μ fs s) (hle : MLe μ μ') : ER μ' fs s := ⟨h.1, fun f hf d hd => ⟨(h.2 f hf d hd).1.mono hle, (h.2 f hf d hd).2⟩⟩
def CEs (f : FuncId) (args : List Value) (xb mb : Nat) (s s' : ES) (μ : Mem) : Prop := ∀ (w : World) (fs : List FR), MOk μ w → ER μ fs s → Go.Vcg.Own μ (EB xb mb s fs) w →
 Calls Tryz.prog f args.toArray w fun e w' => ∃ (v : Value) (μ' : Mem) (i : List FR), e = .returned v ∧ lT (kI (EB xb mb s fs)) w w' μ (EB xb mb s' i) μ' ∧ ER μ' i s'
def CEr (f : FuncId) (args : List Value) (xb mb : Nat) (s s' : ES) (μ : Mem) (R : Mem → Value → Prop) : Prop := ∀ (w : World) (fs : List FR), MOk μ w → ER μ fs s → Go.Vcg.Own μ (EB xb mb s fs) w →
 Calls Tryz.prog f args.toArray w fun e w' => ∃ (v : Value) (μ' : Mem) (i : List FR), e = .returned v ∧ lT (kI (EB xb mb s fs)) w w' μ (EB xb mb s' i) μ' ∧ (ER μ' i s' ∧ R μ' v)
theorem aAx (xb mb : Nat) (s : ES) (fs : List FR) : EB xb mb s fs = .inl ⟨xb, 95, 4, [(0, .map (some mb)), (1, .int .i64 (s.regs : Int)), (2, .int .i64 s.at'), (3, .int .i64 s.e)]⟩ :: .mp ⟨mb, mkD fs 0, fs.length⟩ :: mP fs := rfl
section
variable {X : Ctx} {ops : Array Oper} {Q : Exit → Act → World → Prop} {rest : List Oper} {μ : Mem} {l : bP} {L Lr : List Bk} {o : Oper} {d : Nat} {f : FuncId} {args : List Value} {xb mb : Nat} {s s' : ES} {fs : List FR}
theorem iR (k : Nat) (hd : o.dst = some d) (hn : Nat.blt d X.n = true) (hw : gQ ops l o = some true) (hr : Ent Tryz.prog μ l L o f args.toArray) (hL : splitB k L = some (Lr, EB xb mb s fs)) (a : ER μ fs s) (hc : CEs f args xb mb s s' μ)
 (h : ∀ (v : Value) (μ' : Mem) (i : List FR), MLe μ μ' → ER μ' i s' → G Tryz.prog X ops Q rest μ' ((d, v) :: l) (Lr ++ EB xb mb s' i)) : G Tryz.prog X ops Q (o :: rest) μ l L :=
 pJ (Ls := fun i => EB xb mb s' i) (Post := fun μ' _ i => ER μ' i s') k hd hn hw hr hL (fun w hμ b => hc w fs hμ a b) h
theorem TQ {R : Mem → Value → Prop} (k : Nat) (hd : o.dst = some d) (hn : Nat.blt d X.n = true) (hw : gQ ops l o = some true) (hr : Ent Tryz.prog μ l L o f args.toArray) (hL : splitB k L = some (Lr, EB xb mb s fs)) (b : ER μ fs s) (hc : CEr f args xb mb s s' μ R)
 (h : ∀ (v : Value) (μ' : Mem) (i : List FR), MLe μ μ' → ER μ' i s' → R μ' v → G Tryz.prog X ops Q rest μ' ((d, v) :: l) (Lr ++ EB xb mb s' i)) : G Tryz.prog X ops Q (o :: rest) μ l L :=
 pJ (Ls := fun i => EB xb mb s' i) (Post := fun μ' v i => ER μ' i s' ∧ R μ' v) k hd hn hw hr hL (fun w hμ c => hc w fs hμ b c) fun v μ' i hle a => h v μ' i hle a.1 a.2
end
theorem IsV.mM {μ : Mem} {v : Value} {n : Nat} {ys : List Value} {t : TypeId} {xs : List Int} (h : Bk.sh (.inr ⟨v, t, 1, n, ys⟩) μ) (hn : n = xs.length) (a : ys = xs.flatMap XR) : IsV μ v xs := by
 subst hn a
 obtain ⟨A, c, e, b⟩ := sT (enc := XR) (xs := xs) h rfl (by simp) rfl
 subst e
 exact ⟨A, c, rfl, b, Bk.cap h⟩
theorem SsV.mM {μ : Mem} {v : Value} {n : Nat} {ys : List Value} {t : TypeId} {xs : List ByteArray} (h : Bk.sh (.inr ⟨v, t, 1, n, ys⟩) μ) (hn : n = xs.length) (a : ys = xs.flatMap lV) : SsV μ v xs := by
 subst hn a
 obtain ⟨A, c, e, b⟩ := sT (enc := lV) (xs := xs) h rfl (by simp) rfl
 subst e
 exact ⟨A, c, rfl, b, Bk.cap h⟩
theorem YM (x y : ByteArray) : (x == y) = decide (x = y) := by
 by_cases h : x = y
 ·subst h
  rw [decide_eq_true rfl]
  show (x.data == x.data) = true
  exact beq_self_eq_true _
 ·rw [decide_eq_false h]
  show (x.data == y.data) = false
  refine beq_false_of_ne fun e => h ?_
  obtain ⟨a⟩ := x
  obtain ⟨b⟩ := y
  dsimp only at e
  rw [e]
theorem JH (x : ByteArray) : ∀ (fs : List FR) (j i : Nat), Instr.findNow .string (.string x) (mkD fs j) i = some ((xK x fs i).map fun p => (p.1, p.2.v))
 | [], j, i => by simp [mkD, Instr.findNow, xK]
 | f :: r, j, i => by
   have ih := JH x r (j + 1) (i + 1)
   unfold mkD Instr.findNow xK
   by_cases h : x = f.key
   ·rw [← h]
    simp [Instr.sameNow, YM]
   ·simp [Instr.sameNow, YM, h, ih]
theorem ZS : ∀ (fs : List FR) (f : FR) (j : Nat), mkD (fs ++ [f]) j = mkD fs j ++ [MapEntry.mk (.string f.key) f.v (j + fs.length)]
 | [], f, j => by simp [mkD]
 | g :: r, f, j => by
   have := ZS r f (j + 1)
   simp only [aL, mkD, this, bF]
   rw [show j + 1 + r.length = j + (r.length + 1) by omega]
theorem CH {x : ByteArray} : ∀ {fs : List FR} {i p : Nat} {f : FR}, xK x fs i = some (p, f) → i ≤ p ∧ fs[p - i]? = some f ∧ f.key = x
 | [], _, _, _, h => by cases h
 | g :: r, i, p, f, h => by
   unfold xK at h
   split at h
   ·rename_i a
    cases h
    exact ⟨aD _, by rw [dN]; rfl, a.symm⟩
   ·obtain ⟨h1, h2, h3⟩ := CH h
    refine ⟨by omega, ?_, h3⟩
    rw [show p - i = (p - (i + 1)) + 1 by omega, bG]
    exact h2
theorem ZR : ∀ (fs : List FR) (j p : Nat) (f g : FR), fs[p]? = some f → g.key = f.key → (mkD fs j).modify p (fun e => { e with key := .string g.key, val := g.v }) = mkD (fs.set p g) j ∧ ((mkD fs j)[p]?).map (·.key) = some (.string g.key)
 | [], j, p, f, g, h, _ => by simp at h
 | a :: r, j, 0, f, g, h, hk => by
   cases h
   simp [mkD, hk]
 | a :: r, j, p + 1, f, g, h, hk => by
   rw [bG] at h
   obtain ⟨e1, e2⟩ := ZR r (j + 1) p f g h hk
   simp only [mkD, jY, List.modify_succ_cons, e1, bG, e2, and_self]
theorem JB {x : ByteArray} : ∀ {fs : List FR} {i : Nat}, oL x (nmD fs) = match xK x fs i with | some (_, f) => f.ds.map (·.1) | none => []
 | [], _ => rfl
 | g :: r, i => by
   have ih := JB (x := x) (fs := r) (i := i + 1)
   unfold nmD at ih ⊢
   simp only [aO, oL, xK]
   split
   ·rfl
   ·exact ih
theorem RO {x : ByteArray} {l : List ED} : ∀ {fs : List FR} {i p : Nat} {f : FR} {v : Value} {ds : List (ED × Value)}, xK x fs i = some (p, f) → l = ds.map (·.1) → vL x l (nmD fs) = nmD (fs.set (p - i) ⟨f.key, v, ds⟩)
 | [], _, _, _, _, _, h, _ => by cases h
 | g :: r, i, p, f, v, ds, h, hl => by
   unfold xK at h
   unfold nmD
   simp only [aO, vL]
   split at h
   ·rename_i a
    cases h
    rw [if_pos a, dN, iL, aO, hl]
   ·rename_i a
    obtain ⟨h1, -, -⟩ := CH h
    have ih := RO (v := v) (ds := ds) h hl
    unfold nmD at ih
    rw [if_neg a, show p - i = (p - (i + 1)) + 1 by omega, jY, aO, ih]
theorem RP {x : ByteArray} {l : List ED} : ∀ {fs : List FR} {i : Nat} {v : Value} {ds : List (ED × Value)}, xK x fs i = none → l = ds.map (·.1) → vL x l (nmD fs) = nmD (fs ++ [⟨x, v, ds⟩])
 | [], _, _, _, _, hl => by simp [nmD, vL, hl]
 | g :: r, i, v, ds, h, hl => by
   unfold xK at h
   unfold nmD
   simp only [aO, vL]
   split at h
   ·cases h
   ·rename_i a
    have ih := RP (v := v) (ds := ds) h hl
    unfold nmD at ih
    rw [if_neg a, aL, aO, ih]
theorem aGi (fs : List FR) (f : FR) : mP (fs ++ [f]) = mP fs ++ [JL f] := by unfold mP; rw [bI]; rfl
theorem aGh {fs : List FR} {i : Nat} {f : FR} (h : fs[i]? = some f) : (mP fs)[i]? = some (JL f) := by unfold mP; rw [aN, h]; rfl
theorem aGd (fs : List FR) (i : Nat) (f : FR) : mP (fs.set i f) = (mP fs).set i (JL f) := by unfold mP; rw [iU]
theorem aGg (fs : List FR) : (mP fs).length = fs.length := aH ..
end
section
open Go.RowKit Go.Vcg
theorem wB (c : Bool) (a e : Int) (s : ES) : (jC c a e s).names = s.names := by unfold jC; split <;> rfl
theorem aDa (c : Bool) (a e : Int) (s : ES) : (jC c a e s).regs = s.regs := by unfold jC; split <;> rfl
attribute [local irreducible] mP mkD G GC GQ GA eN Calls IntKind.wrap Int.decLt Int.decLe
theorem pU (xb mb : Nat) (t : T) (u : Value) (hu : u.oneCell' = true) (c : Bool) (e : Int) (s : ES) (μ : Mem) :
 CEs 106 [.pointer (some ⟨xb, 0, none⟩), .agg (aY t u).toArray, .int .i64 e, .bool c] xb mb s (jC c t.at' e s) μ := by
 intro w fs hμ k j
 have a := dJ j.diff
 have d : ∀ μ', MLe μ μ' → ER μ' fs (jC c t.at' e s) := fun μ' hle => ⟨by rw [wB]; exact k.1, (k.mono hle).2⟩
 generalize f : jC c t.at' e s = s' at d ⊢
 unfold EB at j a
 show Calls _ _ _ _ (fun e w' => ∃ (v : Value) (μ' : Mem) (i : List FR), e = .returned v ∧ lT (kI (.inl ⟨xb, 95, 4, [(0, .map (some mb)), (1, .int .i64 (s.regs : Int)), (2, .int .i64 s.at'), (3, .int .i64 s.e)]⟩ :: .mp ⟨mb, mkD fs 0, fs.length⟩ :: mP fs)) w w' μ (EB xb mb s' i) μ' ∧ ER μ' i s')
 refine cC (args := [.pointer (some ⟨xb, 0, none⟩), .agg (aY t u).toArray, .int .i64 e, .bool c]) Tryz.func106 rfl Tryz.ntmps106 (by simp) hμ j ?_
 by_cases hc : c = true
 ·subst hc
  by_cases he : s.e = 0
  ·have h2 : s' = { s with at' := t.at', e := e } := by rw [← f, jC, if_pos ⟨rfl, he⟩]
   subst h2
   try repeat' (first | refine KZ ?_ | refine NB fun b => ?_)
   refine IX (l' := []) (L' := EB xb mb { s with at' := t.at', e := e } fs) PU (by unfold EB; exact dR (.cells PU) (dR (.refl _) (bS _ (fL _)))) ?_
   exact wV 0 fs (.inr rfl) a rfl rfl rfl (fun μ' _ hle => d μ' hle)
  ·have h2 : s' = s := by rw [← f, jC, if_neg (fun h => he h.2)]
   subst h2
   try repeat' (first | refine KZ ?_ | refine NB fun b => ?_)
   refine IX (l' := []) (L' := EB xb mb s' fs) PU (by unfold EB; exact dR (.cells PU) (dR (.refl _) (bS _ (fL _)))) ?_
   exact wV 0 fs (.inr rfl) a rfl rfl rfl (fun μ' _ hle => d μ' hle)
 ·have h2 : s' = s := by rw [← f, jC, if_neg (fun h => hc h.1)]
  subst h2
  have g : c = false := by simpa using hc
  subst g
  try repeat' (first | refine KZ ?_ | refine NB fun b => ?_)
  refine IX (l' := []) (L' := EB xb mb s' fs) PU (by unfold EB; exact dR (.cells PU) (dR (.refl _) (bS _ (fL _)))) ?_
  exact wV 0 fs (.inr rfl) a rfl rfl rfl (fun μ' _ hle => d μ' hle)
end
end Go.Proofs.YtlllalmkkaolfaaGreatDoor
namespace Go.Vcg
open Go.RowKit
section
variable {P : Program} {X : Ctx} {μ : Mem} {l : bP} {L : List Bk}
variable {ty : TypeId} {pos : String} {af : Array Edge} {gd : Option (Nat × Bool)} {ds : Option Nat}
theorem aLg {p q : Operand} {t t2 : TypeId} {k : IntKind} {x y : Int} (hx0 : ev l p = some (.int k x)) (hx1 : ev l q = some (.int k y)) : Val P μ l L ⟨ds, .binOp .and t p q t2, ty, pos, af, gd⟩ (.int k (k.wrap ((BitVec.ofInt k.bits x &&& BitVec.ofInt k.bits y).toNat : Int))) :=
 fun a w hs => by have e0 := hs.eval hx0; have e1 := hs.eval hx1; generalize a.eval = ρ at e0 e1; simp [execOp, e0, e1, eqGuard, binOp, Op.intBits]
end
end Go.Vcg
namespace Go.Proofs.YtlllalmkkaolfaaGreatDoor
section
open Go.RowKit Go.Vcg
theorem aDm {P : Program} {μ : Mem} {l : bP} {L : List Bk} {ty : TypeId} {pos : String} {af : Array Edge} {gd : Option (Nat × Bool)} {ds : Option Nat} {p q : Operand} {t t2 : TypeId} {x y : Int} (hx0 : ev l p = some (.int .i64 x)) (hx1 : ev l q = some (.int .i64 y)) : Val P μ l L ⟨ds, .binOp .and t p q t2, ty, pos, af, gd⟩ (.int .i64 (anI x y)) := aLg hx0 hx1
theorem aF4 : ∀ l : List Int, (l.flatMap XR).length = l.length
 | [] => rfl
 | x :: r => by
   have := aF4 r
   simp only [bU, aK, bF, bJ, this]
   omega
theorem MX : ∀ l : List ByteArray, (l.flatMap lV).length = l.length
 | [] => rfl
 | x :: r => by
   have := MX r
   simp only [bU, aK, bF, bJ, this]
   omega
theorem aEn (l : List Int) : ∀ u ∈ l.flatMap XR, u.oneCell' = true := fun u hu => by
 obtain ⟨b, -, hb⟩ := List.mem_flatMap.1 hu
 simp at hb
 subst hb
 rfl
theorem IF (l : List ByteArray) : ∀ u ∈ l.flatMap lV, u.oneCell' = true := fun u hu => by
 obtain ⟨b, -, hb⟩ := List.mem_flatMap.1 hu
 simp at hb
 subst hb
 rfl
attribute [local irreducible] anI EB mP mkD G GC GQ GA eN Calls IntKind.wrap Int.decLt Int.decLe
theorem UP (n k : Int) (w : World) (μ : Mem) (hμ : MOk μ w) : aV 137 #[.int .i64 n, .int .i64 k] w (.bool (pY n k)) := by
 have hb : pY n k = (decide (0 ≤ n) && decide (anI n k ≠ 0)) := rfl
 refine aE (args := [.int .i64 n, .int .i64 k]) Tryz.func137 rfl Tryz.ntmps137 (by simp) hμ ?_
 try repeat' (first | refine KO ?_ | (refine KV (b := by ((with_reducible apply aDm); exact rfl; exact rfl)) (c := ?_)) | refine KZ ?_ | (refine KB ?_ ?_ <;> intro a))
 all_goals refine aJ rfl rfl (congrArg _ ?_)
 all_goals rw [hb]
 all_goals first | (simp_all; done) | (simp_all; intro; omega)
theorem PP (w : World) (μ : Mem) (hμ : MOk μ w) (l : List Int) (v : Value) (hv : IsV μ v l) (hl : l.length ≤ 1000000) : Calls Tryz.prog 140 #[v] w (pV w 3 1 l.length (l.flatMap XR)) := by
 obtain ⟨A, c, rfl, d, hcap⟩ := hv
 refine aE (args := [.slice A l.length c]) Tryz.func140 rfl Tryz.ntmps140 (by simp) hμ ?_
 have h1 := aEn l
 have h2 := aF4 l
 cases A with
 | none =>
   have h0 : l = [] := by
    cases l with
    | nil => rfl
    | cons x r =>
      obtain ⟨a, e, _⟩ := d.2 (by simp)
      cases e
   subst h0
   try repeat' (first | refine KO ?_ | (refine KV (b := by ((with_reducible apply yJ); exact rfl; exact rfl)) (c := ?_)))
   exact DX 3 1 (nG 0 rfl rfl rfl)
 | some ad =>
   try repeat' (first | (with_reducible apply XH 1) | refine KO ?_ | (((with_reducible apply oZ); (iterate 3 exact rfl); (repeat with_reducible exact fE); (iterate 6 exact rfl); (((with_reducible apply OE); exact rfl; exact d; simp)); omega; (assumption); omega; omega; intro v)) | (refine KV (b := by ((with_reducible apply yJ); exact rfl; exact rfl)) (c := ?_)) | refine KZ ?_ | refine NB fun b => ?_)
   simp only [bB, aP]
   exact nG 0 rfl rfl rfl
theorem zF (w : World) (μ : Mem) (hμ : MOk μ w) (l : List ByteArray) (v : Value) (hv : SsV μ v l) (hl : l.length ≤ 1000000) : Calls Tryz.prog 108 #[v] w (pV w 9 1 l.length (l.flatMap lV)) := by
 obtain ⟨A, c, rfl, d, hcap⟩ := hv
 refine aE (args := [.slice A l.length c]) Tryz.func108 rfl Tryz.ntmps108 (by simp) hμ ?_
 have h1 := IF l
 have h2 : (l.flatMap lV).length = l.length := MX l
 cases A with
 | none =>
   have h0 : l = [] := by
    cases l with
    | nil => rfl
    | cons x r =>
      obtain ⟨a, e, _⟩ := d.2 (by simp)
      cases e
   subst h0
   try repeat' (first | refine KO ?_ | (refine KV (b := by ((with_reducible apply yJ); exact rfl; exact rfl)) (c := ?_)))
   exact DX 9 1 (nG 0 rfl rfl rfl)
 | some ad =>
   try repeat' (first | (with_reducible apply XH 1) | refine KO ?_ | (((with_reducible apply oZ); (iterate 3 exact rfl); (repeat with_reducible exact fE); (iterate 6 exact rfl); (((with_reducible apply OE); exact rfl; exact d; simp)); omega; (assumption); omega; omega; intro v)) | (refine KV (b := by ((with_reducible apply yJ); exact rfl; exact rfl)) (c := ?_)) | refine KZ ?_ | refine NB fun b => ?_)
   simp only [bB, aP]
   exact nG 0 rfl rfl rfl
theorem DU (μ : Mem) (p : EP) (pv : Value) (a : PV μ p pv) (hne : 0 < p.regs.length) (hb : p.regs.length ≤ 1000000) : ∃ v, IsV μ v (oF p) ∧ ∀ (w : World) (μ' : Mem), MOk μ' w → MLe μ μ' → aV 102 #[pv] w v := by
 obtain ⟨r, lb, lo, mi, rfl, hr, h2, h3, h4⟩ := a
 have o2 := h2.one
 have o3 := h3.one
 have o4 := h4.one
 obtain ⟨A, c, rfl, d, hcap⟩ := hr
 refine ⟨.slice (if c = p.regs.length - 1 then A else A.map (·.add ((p.regs.length - 1) * 1))) (p.regs.length - (p.regs.length - 1)) (c - (p.regs.length - 1)), ⟨_, _, by rw [oF, cQ], by rw [oF, cQ]; exact d.drop (by omega) hcap, by rw [oF, cQ]; omega⟩, fun w μ' hw hle => ?_⟩
 refine aE (args := [.agg (hZ p (.slice A p.regs.length c) lb lo mi).toArray]) Tryz.func102 rfl Tryz.ntmps102 (by simp) hw ?_
 try repeat' (first | refine KO ?_ | (refine KV (b := by ((with_reducible apply kK (p.regs.length - 1)); (iterate 4 exact rfl); omega; omega)) (c := ?_)) | refine KZ ?_ | refine NB fun b => ?_)
 exact aJ rfl rfl rfl
end
section
open Go.RowKit Go.Vcg
inductive Sm : T → T → Prop
 | mk (a b : T) (h1 : a.op = b.op) (h2 : a.n = b.n) (h3 : a.m = b.m) (h4 : a.s = b.s) (h5 : a.kids.length = b.kids.length) (h6 : ∀ (i : Nat) (x y : T), a.kids[i]? = some x → b.kids[i]? = some y → Sm x y) : Sm a b
def SmL (l m : List T) : Prop := l.length = m.length ∧ ∀ (i : Nat) (x y : T), l[i]? = some x → m[i]? = some y → Sm x y
noncomputable def dB (p : Prop) : Bool := @decide p (Classical.propDecidable p)
theorem aGw {p : Prop} (h : p) : dB p = true := @decide_eq_true p (Classical.propDecidable p) h
theorem aGx {p : Prop} (h : ¬p) : dB p = false := @decide_eq_false p (Classical.propDecidable p) h
theorem CX {p : Prop} (h : dB p = true) : p := @of_decide_eq_true p (Classical.propDecidable p) h
theorem UJ {p : Prop} (h : dB p = false) : ¬p := @of_decide_eq_false p (Classical.propDecidable p) h
noncomputable def smB (a b : T) : Bool := dB (Sm a b)
noncomputable def aPn (l m : List T) : Bool := dB (SmL l m)
theorem T.XA {p : T → Prop} (h : ∀ t : T, (∀ k, k ∈ t.kids → p k) → p t) (t : T) : p t := by
 have key : ∀ (n : Nat) (t : T), t.size ≤ n → p t := by
  intro n
  induction n with
  | zero => intro t ht; rw [T.size_eq] at ht; omega
  | succ n ih =>
    intro t ht
    refine h t fun k hk => ih k ?_
    obtain ⟨i, hi⟩ := List.mem_iff_getElem?.1 hk
    have := T.fN hi
    omega
 exact key t.size t (aD _)
theorem eL (t : T) : t.kids.length < t.size := by
 rw [T.size_eq]
 have : ∀ l : List T, l.length ≤ (l.map T.size).sum := fun l => by
  induction l with
  | nil => simp
  | cons x l ih =>
    have := T.size_eq x
    simp; omega
 have := this t.kids
 omega
attribute [local irreducible] smB aPn G GC GQ GA eN Calls IntKind.wrap Int.decLt Int.decLe
end
end Go.Proofs.YtlllalmkkaolfaaGreatDoor
namespace Go.Vcg
open Go.RowKit
def GI (P : Program) (F : Fence) (n : Nat) (X : Ctx) (ops : Array Oper) (Q : Exit → Act → World → Prop) (rest : List Oper) (μ : Mem) (l : bP) (L : List Bk) : Prop :=
 ∀ a w, St X μ l L a w → wpListIn F n P ops Q rest a w
def GCI (P : Program) (F : Fence) (n : Nat) (X : Ctx) (c : Code) (Q : Exit → Act → World → Prop) (μ : Mem) (l : bP) (L : List Bk) : Prop :=
 ∀ a w, St X μ l L a w → c.wpIn F n P Q a w
end Go.Vcg
namespace Go.Proofs.YtlllalmkkaolfaaGreatDoor
section
open Go.RowKit Go.Vcg Go.Shelf
def rK : List (List UInt8) := [
 [],
 [80, 114, 111, 103, 114, 97, 109],
 [86, 97, 114],
 [68, 101, 99, 108],
 [70, 117, 110, 99],
 [80, 97, 114, 97, 109, 115],
 [66, 108, 111, 99, 107],
 [69, 109, 112, 116, 121],
 [69, 120, 112, 114],
 [73, 102],
 [70, 111, 114],
 [70, 111, 114, 73, 110],
 [70, 111, 114, 79, 102],
 [87, 104, 105, 108, 101],
 [68, 111],
 [66, 114, 101, 97, 107],
 [67, 111, 110, 116, 105, 110, 117, 101],
 [82, 101, 116, 117, 114, 110],
 [84, 104, 114, 111, 119],
 [84, 114, 121],
 [67, 97, 116, 99, 104],
 [83, 119, 105, 116, 99, 104],
 [67, 97, 115, 101],
 [76, 97, 98, 101, 108],
 [],
 [],
 [],
 [],
 [],
 [],
 [78, 117, 109],
 [84, 101, 120, 116],
 [66, 111, 111, 108],
 [78, 117, 108, 108],
 [78, 97, 109, 101],
 [84, 104, 105, 115],
 [84, 101, 109, 112, 108, 97, 116, 101],
 [65, 114, 114, 97, 121],
 [79, 98, 106, 101, 99, 116],
 [80, 114, 111, 112],
 [72, 111, 108, 101],
 [83, 112, 114, 101, 97, 100],
 [85, 110, 97, 114, 121],
 [85, 112, 100, 97, 116, 101],
 [66, 105, 110, 97, 114, 121],
 [76, 111, 103, 105, 99],
 [65, 115, 115, 105, 103, 110],
 [67, 111, 110, 100],
 [83, 101, 113],
 [67, 97, 108, 108],
 [78, 101, 119],
 [68, 111, 116],
 [73, 110, 100, 101, 120],
 [67, 104, 97, 105, 110],
 [89, 105, 101, 108, 100],
 [],
 [],
 [],
 [],
 [],
 [65, 114, 114, 80, 97, 116],
 [79, 98, 106, 80, 97, 116],
 [80, 97, 116, 80, 114, 111, 112],
 [68, 101, 102, 97, 117, 108, 116],
 [82, 101, 115, 116]]
def tP (op : Int) : List UInt8 := if 0 ≤ op then rK.getD op.toNat [] else []
theorem IN {op : Int} (h : op < 0 ∨ 65 ≤ op) : tP op = [] := by
 unfold tP
 split
 ·have : rK.length = 65 := rfl
  rw [List.getD_eq_getElem?_getD, dL (by omega)]
  rfl
 ·rfl
theorem aEw {k : Nat} {l : List UInt8} (h : rK[k]? = some l) : tP (k : Int) = l := by
 unfold tP
 rw [if_pos (by omega), cL, List.getD_eq_getElem?_getD, h]
 rfl
theorem aBt {op : Int} (h : op = 0 ∨ op = 24 ∨ op = 25 ∨ op = 26 ∨ op = 27 ∨ op = 28 ∨ op = 29 ∨ op = 55 ∨ op = 56 ∨ op = 57 ∨ op = 58 ∨ op = 59) : tP op = [] := by
 rcases h with rfl | rfl | rfl | rfl | rfl | rfl | rfl | rfl | rfl | rfl | rfl | rfl <;> rfl
abbrev XT (l : List UInt8) : List Value := [.string ⟨l.toArray⟩]
theorem XD {μ : Mem} {w : World} (hμ : MOk μ w) (o : Obj) : ∃ μ', tB w (w.alloc o) μ μ' ∧ μ' w.heap.size = some o := by
 have hn : ∀ b, w.heap.size ≤ b → μ b = none := fun b hb => by
  cases h : μ b with
  | none => rfl
  | some x =>
    have := (Array.getElem?_eq_some_iff.1 (hμ b x h)).1
    omega
 refine ⟨fun b => if b = w.heap.size then some o else μ b, ⟨(Below.refl _ w).alloc (aD _) _, fun b x e => ?_, fun b x e => ?_, fun b hb h0 => ?_⟩, by simp⟩
 ·have : b ≠ w.heap.size := fun e' => by rw [e', hn _ (aD _)] at e; cases e
  simp [this, e]
 ·by_cases hb : b = w.heap.size
  ·subst hb
   simp at e
   subst e
   exact World.alloc_heap_new w _
  ·simp [hb] at e
   have := hμ b x e
   rw [Below.heap_alloc _ _ _ (Array.getElem?_eq_some_iff.1 this).1]
   exact this
 ·have : b ≠ w.heap.size := by omega
  simp [this, h0]
def YQ (ws : List (List UInt8)) (μ : Mem) (v : Value) : Prop := ∃ b, v = .slice (some ⟨b, 0, none⟩) ws.length ws.length ∧ Sl XT 1 μ (some ⟨b, 0, none⟩) ws.length ws
def qX (μ : Mem) : Prop := ∀ w, MOk μ w → Lib.TabIs Tryz.prog w "strings.asciiSpace" .u8 Lib.asciiSpaceTab
theorem qX.mono {μ μ' : Mem} (h : qX μ) (hle : MLe μ μ') : qX μ' := fun w hw => h w (fun b o e => hw b o (hle b o e))
theorem tU (s : ByteArray) (ws : List (List UInt8)) (hs : Nat.blt s.data.toList.length 4294967281 = true) (c : s.data.toList.all (fun b => Nat.blt b.toNat 128) = true) (hf : Lib.fields s.data.toList = ws) (w : World) (μ : Mem) (hμ : MOk μ w) (d : qX μ) :
 Calls Tryz.prog 145 #[.string s] w fun e w' => ∃ v μ', e = .returned v ∧ tB w w' μ μ' ∧ YQ ws μ' v := by
 refine (Any.strings_Fields_laid Tryz.laysM157 s w (by have h := Nat.le_of_ble_eq_true hs; rw [gF] at h; exact h) (fun j b hb => ?_) (d w hμ)).mono fun e w' ⟨h1, h2⟩ => ?_
 ·have := eD.1 c b (aB hb)
  exact Nat.le_of_ble_eq_true this
 ·subst h2
  rw [hf] at h1 ⊢
  obtain ⟨μ', hg, hm⟩ := XD hμ (.cells (ws.map fun l => Value.string ⟨l.toArray⟩).toArray (Tryz.laysM157_ren.t 9))
  refine ⟨_, μ', h1, hg, _, rfl, rfl, fun f => ⟨_, rfl, fun i l hl j v a => ?_⟩⟩
  match j, a with
  | 0, a =>
    simp at a
    subst a
    rw [mX, add_lit]
    exact ⟨_, _, _, hm, rfl, by simp [hl]⟩
  | j + 1, a => simp at a
attribute [local irreducible] G GC GQ GA eN Calls IntKind.wrap Int.decLt Int.decLe
theorem aBs (op : Int) (i : -9223372036854775808 ≤ op ∧ op ≤ 9223372036854775807) (w : World) (μ : Mem) (hμ : MOk μ w) (g : qX μ) :
 aV 114 #[.int .i64 op] w (.string ⟨(tP op).toArray⟩) := by
 refine aE (args := [.int .i64 op]) Tryz.func114 rfl Tryz.ntmps114 (by simp) hμ ?_
 have key : ∀ (lo n : Nat) (ws : List (List UInt8)), (rK.drop lo).take n = ws → ∀ k : Nat, k < n → lo + n ≤ 65 → ∀ {μ' : Mem} {b : Nat}, Sl XT 1 μ' (some ⟨b, 0, none⟩) ws.length ws → eM μ' ((⟨b, 0, none⟩ : Addr).add (k * 1)) [.string ⟨(tP ((lo + k : Nat) : Int)).toArray⟩] := by
  intro lo n ws h k hk j μ' b f
  have hl : rK.length = 65 := rfl
  have hg : rK[lo + k]? = some rK[lo + k] := aA (by omega)
  have hw : ws[k]? = some rK[lo + k] := by
   rw [← h, List.getElem?_take_of_lt hk, gM, hg]
  obtain ⟨a, e, l⟩ := f.2 (by have := (List.getElem?_eq_some_iff.1 hw).1; omega)
  cases e
  rw [aEw hg]
  exact l k _ hw
 by_cases h1 : 1 ≤ op ∧ op ≤ 23
 ·obtain ⟨k, rfl⟩ : ∃ k : Nat, op = ((1 + k : Nat) : Int) := ⟨(op - 1).toNat, by omega⟩
  try repeat' (first | refine KO ?_ | ((with_reducible apply F2 145); exact rfl; exact EN; (exact fun w hw => tU _ ((rK.drop 1).take 23) (by kernel_rfl) (by kernel_rfl) (by kernel_rfl) w _ hw g); rintro v2 μ2 d ⟨bf, rfl, f⟩; (have hc := key 1 23 _ rfl k (by omega) (by omega) f); (rw [show ((rK.drop 1).take 23).length = 23 from rfl])) | (refine KV (b := by first | exact U1 k | ((with_reducible apply jR); exact rfl; exact rfl; exact hc.at 0 rfl)) (c := ?_)) | refine KZ ?_)
  exact HQ rfl (by exact cN rfl) rfl
 by_cases h2 : 30 ≤ op ∧ op ≤ 54
 ·obtain ⟨k, rfl⟩ : ∃ k : Nat, op = ((30 + k : Nat) : Int) := ⟨(op - 30).toNat, by omega⟩
  try repeat' (first | refine KO ?_ | ((with_reducible apply F2 145); exact rfl; exact EN; (exact fun w hw => tU _ ((rK.drop 30).take 25) (by kernel_rfl) (by kernel_rfl) (by kernel_rfl) w _ hw g); rintro v2 μ2 d ⟨bf, rfl, f⟩; (have hc := key 30 25 _ rfl k (by omega) (by omega) f); (rw [show ((rK.drop 30).take 25).length = 25 from rfl])) | (refine KV (b := by first | exact U1 k | ((with_reducible apply jR); exact rfl; exact rfl; exact hc.at 0 rfl)) (c := ?_)) | refine KZ ?_)
  exact HQ rfl (by exact cN rfl) rfl
 by_cases h3 : 60 ≤ op ∧ op ≤ 64
 ·obtain ⟨k, rfl⟩ : ∃ k : Nat, op = ((60 + k : Nat) : Int) := ⟨(op - 60).toNat, by omega⟩
  try repeat' (first | refine KO ?_ | ((with_reducible apply F2 145); exact rfl; exact EN; (exact fun w hw => tU _ ((rK.drop 60).take 5) (by kernel_rfl) (by kernel_rfl) (by kernel_rfl) w _ hw g); rintro v2 μ2 d ⟨bf, rfl, f⟩; (have hc := key 60 5 _ rfl k (by omega) (by omega) f); (rw [show ((rK.drop 60).take 5).length = 5 from rfl])) | (refine KV (b := by first | exact U1 k | ((with_reducible apply jR); exact rfl; exact rfl; exact hc.at 0 rfl)) (c := ?_)) | refine KZ ?_)
  exact HQ rfl (by exact cN rfl) rfl
 have o : tP op = [] := by
  by_cases h0 : op < 0 ∨ 65 ≤ op
  ·exact IN h0
  ·exact aBt (by omega)
 rw [o]
 try repeat' (first | refine KZ ?_ | (refine KB ?_ ?_ <;> intro p))
 all_goals exact HQ rfl (by exact cN rfl) rfl
end
section
open Go.RowKit Go.Vcg
theorem drop_cons {l : List UInt8} {i : Nat} {b : UInt8} (h : l[i]? = some b) : l.drop i = b :: l.drop (i + 1) := by
 obtain ⟨hlt, e⟩ := List.getElem?_eq_some_iff.1 h
 rw [← e, List.getElem_cons_drop]
theorem aAr {s : ByteArray} {i : Nat} (h : i < s.size) : ∃ b, (bl s)[i]? = some b ∧ bAt s i = b.toNat := by
 have h1 : i < (bl s).length := by rw [BF]; exact h
 have h2 : s.data.toList[i]? = some (bl s)[i] := aA h1
 refine ⟨(bl s)[i], aA h1, ?_⟩
 unfold bAt
 rw [h2]
 rfl
def QD (n : Nat) : Prop := 97 ≤ n ∧ n ≤ 122 ∨ 65 ≤ n ∧ n ≤ 90 ∨ n = 95 ∨ n = 36
instance (n : Nat) : Decidable (QD n) := by unfold QD; exact inferInstance
def UU (n : Nat) : Prop := 48 ≤ n ∧ n ≤ 57
instance (n : Nat) : Decidable (UU n) := by unfold UU; exact inferInstance
attribute [local irreducible] G GC GQ GA eN Calls IntKind.wrap Int.decLt Int.decLe
end
section
open Go.RowKit Go.Vcg
def aKd (x y : Int) : Int := IntKind.i64.wrap (BitVec.ofInt 64 x &&& BitVec.ofInt 64 y).toNat
theorem aLh {P : Program} {μ : Mem} {l : bP} {L : List Bk} {ds : Option Nat} {ty : TypeId} {pos : String} {af : Array Edge} {gd : Option (Nat × Bool)} {p q : Operand} {t t2 : TypeId} {x y : Int} (hx0 : ev l p = some (.int .i64 x)) (hx1 : ev l q = some (.int .i64 y)) : Val P μ l L ⟨ds, .binOp .and t p q t2, ty, pos, af, gd⟩ (.int .i64 (aKd x y)) :=
 fun a w hs => by have e0 := hs.eval hx0; have e1 := hs.eval hx1; generalize a.eval = ρ at e0 e1; simp [execOp, e0, e1, eqGuard, binOp, Op.intBits]; rfl
def fT (t : T) (m : Int) : Bool := decide (t.op = 4) && decide (aKd t.n m ≠ 0)
def iE (t : T) : Bool := decide (t.op = 34) || (decide (t.op = 51) || decide (t.op = 52)) && decide (t.n = 0)
def cW (t : T) : Bool := iE t || decide (t.op = 60) || decide (t.op = 61)
def gU (t : T) : Bool := decide (t.op = 49) || decide (t.op = 51) || decide (t.op = 52)
def fJ (t : T) : Bool := if t.op = 4 then fT t 1 else decide (t.op = 2) || decide (t.op = 21) || decide (t.op = 23) || decide (6 ≤ t.op) && decide (t.op ≤ 19)
def bR (t : T) : Bool := if t.op = 4 then !fT t 57 else decide (30 ≤ t.op) && decide (t.op ≤ 38) || decide (42 ≤ t.op) && decide (t.op ≤ 54)
def FU (t : T) (n : Nat) : Bool := match t.kids with | k :: _ => decide (k.kids.length = n) | [] => false
def rX (t : T) : Bool := cW t || decide (t.op = 2) && decide (t.kids.length = 1) && FU t 1
def CK (t : T) : Bool := fT t 16 && FU t 0
def FO (t : T) : Bool := match t.kids with | k :: _ => (match k.kids with | [x] => decide (x.op ≠ 64) | _ => false) | [] => false
def zJ (t : T) : Bool := fT t 32 && FO t
def zU (t : T) : Bool := fT t 8
def xA (i : Nat) (c : UInt8) : Prop := QD c.toNat ∨ i ≠ 0 ∧ UU c.toNat
def aF3 (l : List UInt8) : Prop := l ≠ [] ∧ ∀ (i : Nat) (c : UInt8), l[i]? = some c → xA i c
noncomputable def jU (s : ByteArray) : Bool := dB (aF3 (bl s))
noncomputable def nO (t : T) : Bool := decide (t.op = 31) && jU t.s
theorem PG {s : ByteArray} (h : aF3 (bl s)) : jU s = true := by unfold jU; exact aGw h
theorem GU {s : ByteArray} (h : ¬aF3 (bl s)) : jU s = false := by unfold jU; exact aGx h
def rQ (f : FuncId) (p : T → Bool) : Prop := ∀ (t : T) (u : Value) (w : World) (μ : Mem), MOk μ w → KR μ t.kids u → t.size ≤ 100000 → t.s.size ≤ 65536 →
 aV f #[.agg (aY t u).toArray] w (.bool (p t))
attribute [local irreducible] aKd jU G GC GQ GA eN Calls IntKind.wrap Int.decLt Int.decLe
theorem pC (m : Int) : ∀ (t : T) (u : Value) (w : World) (μ : Mem), MOk μ w → KR μ t.kids u → t.size ≤ 100000 →
 aV 147 #[.agg (aY t u).toArray, .int .i64 m] w (.bool (fT t m)) := by
 intro t u w μ hμ hk hs
 have ho := hk.one
 refine aE (args := [.agg (aY t u).toArray, .int .i64 m]) Tryz.func147 rfl Tryz.ntmps147 (by simp) hμ ?_
 try repeat' (first | refine KO ?_ | (refine KV (b := by ((with_reducible apply aLh); exact rfl; exact rfl)) (c := ?_)) | refine KZ ?_ | refine NB fun b => ?_ | (refine KB ?_ ?_ <;> intro a))
 all_goals (refine aJ rfl rfl ?_; simp_all [fT]; try omega)
theorem EL : rQ 126 iE := by
 intro t u w μ hμ hk hs a
 have ho := hk.one
 refine aE (args := [.agg (aY t u).toArray]) Tryz.func126 rfl Tryz.ntmps126 (by simp) hμ ?_
 try repeat' (first | refine KZ ?_ | refine NB fun b => ?_ | (refine KB ?_ ?_ <;> intro c))
 all_goals (refine aJ rfl rfl ?_; simp_all [iE]; try omega)
theorem EK : rQ 127 cW := by
 intro t u w μ hμ hk hs a
 have ho := hk.one
 refine aE (args := [.agg (aY t u).toArray]) Tryz.func127 rfl Tryz.ntmps127 (by simp) hμ ?_
 try repeat' (first | refine KO ?_ | refine K2 126 (fun w μc hw c => EL t u w μc hw (hk.mono c) hs a) ?_ | refine KZ ?_ | refine NB fun b => ?_ | (refine KB ?_ ?_ <;> intro d))
 all_goals (refine aJ rfl rfl ?_; simp_all [cW]; try omega)
theorem uR : rQ 78 gU := by
 intro t u w μ hμ hk hs a
 have ho := hk.one
 refine aE (args := [.agg (aY t u).toArray]) Tryz.func78 rfl Tryz.ntmps78 (by simp) hμ ?_
 try repeat' (first | refine KZ ?_ | refine NB fun b => ?_ | (refine KB ?_ ?_ <;> intro c))
 all_goals (refine aJ rfl rfl ?_; simp_all [gU]; try omega)
theorem HD : rQ 131 fJ := by
 intro t u w μ hμ hk hs c
 have ho := hk.one
 refine aE (args := [.agg (aY t u).toArray]) Tryz.func131 rfl Tryz.ntmps131 (by simp) hμ ?_
 try repeat' (first | refine KO ?_ | refine K2 147 (fun w μc hw a => pC 1 t u w μc hw (hk.mono a) hs) ?_ | refine KZ ?_ | refine NB fun b => ?_ | (refine KB ?_ ?_ <;> intro d))
 all_goals (refine aJ rfl rfl ?_; simp_all [fJ]; try omega)
theorem rT : rQ 121 bR := by
 intro t u w μ hμ hk hs c
 have ho := hk.one
 refine aE (args := [.agg (aY t u).toArray]) Tryz.func121 rfl Tryz.ntmps121 (by simp) hμ ?_
 try repeat' (first | refine KO ?_ | refine K2 147 (fun w μc hw a => pC 57 t u w μc hw (hk.mono a) hs) ?_ | refine KZ ?_ | refine NB fun b => ?_ | (refine KB ?_ ?_ <;> intro d))
 all_goals (refine aJ rfl rfl ?_; simp_all [bR]; try omega)
theorem SM : rQ 159 zU := by
 intro t u w μ hμ hk hs c
 have ho := hk.one
 refine aE (args := [.agg (aY t u).toArray]) Tryz.func159 rfl Tryz.ntmps159 (by simp) hμ ?_
 try repeat' (first | refine KO ?_ | refine K2 147 (fun w μc hw a => pC 8 t u w μc hw (hk.mono a) hs) ?_ | refine KZ ?_ | refine NB fun b => ?_)
 all_goals (refine aJ rfl rfl ?_; simp_all [zU]; try omega)
theorem SQ {t : T} {n : Nat} (h : t.kids = []) : FU t n = false := by unfold FU; rw [h]
theorem yU {t k : T} {r : List T} {n : Nat} (h : t.kids = k :: r) : FU t n = decide (k.kids.length = n) := by unfold FU; rw [h]
theorem TN : rQ 157 CK := by
 intro t u w μ hμ hk hs o
 have ho := hk.one
 obtain ⟨A, c, rfl, y, d⟩ := hk.form
 have hlen := eL t
 refine aE (args := [.agg (aY t (.slice A t.kids.length c)).toArray]) Tryz.func157 rfl Tryz.ntmps157 (by simp) hμ ?_
 have h : ∀ (w : World) (μc : Mem), MOk μc w → MLe μ μc → aV 147 #[.agg (aY t (.slice A t.kids.length c)).toArray, .int .i64 16] w (.bool (fT t 16)) := fun w μc hw hle => pC 16 t _ w μc hw (hk.mono hle) hs
 by_cases h0 : t.kids.length = 0
 ·have hg : CK t = false := by
   unfold CK
   rw [SQ (cF h0), gE]
  rw [hg]
  try repeat' (first | refine KO ?_ | refine K2 147 h ?_ | refine KZ ?_ | refine NB fun b => ?_ | (refine KB ?_ ?_ <;> intro p))
  all_goals (refine aJ rfl rfl ?_; simp_all)
 ·obtain ⟨k, r, a⟩ := gS (l := t.kids) (by intro e; rw [e] at h0; exact h0 rfl)
  obtain ⟨ad, x, rfl, hm, q, f⟩ := d 0 k (by rw [a]; rfl)
  obtain ⟨A2, c2, rfl, g, -⟩ := f.form
  have j := T.fN (t := t) (i := 0) (k := k) (by rw [a]; rfl)
  have v := eL k
  have hg : CK t = (fT t 16 && decide (k.kids.length = 0)) := by
   unfold CK
   rw [yU a]
  rw [hg]
  try repeat' (first | refine KO ?_ | refine K2 147 h ?_ | (refine KV (b := by first | exact U1 0 | exact U4 hm) (c := ?_)) | refine KZ ?_ | refine NB fun b => ?_ | (refine KB ?_ ?_ <;> intro p))
  all_goals (refine aJ rfl rfl ?_; simp_all)
theorem QR {t : T} (h : t.kids = []) : FO t = false := by unfold FO; rw [h]
theorem YZ {t k : T} {r : List T} (h : t.kids = k :: r) (hk : k.kids.length ≠ 1) : FO t = false := by
 unfold FO
 rw [h]
 match hm : k.kids with
 | [] => simp [hm]
 | [x] => rw [hm] at hk; exact absurd rfl hk
 | _ :: _ :: _ => simp [hm]
theorem QQ {t k x : T} {r : List T} (h : t.kids = k :: r) (hk : k.kids = [x]) : FO t = decide (x.op ≠ 64) := by
 unfold FO
 rw [h]
 simp only [hk]
theorem QP : rQ 158 zJ := by
 intro t u w μ hμ hk hs ab
 have ho := hk.one
 obtain ⟨A, c, rfl, ag, f⟩ := hk.form
 have hlen := eL t
 refine aE (args := [.agg (aY t (.slice A t.kids.length c)).toArray]) Tryz.func158 rfl Tryz.ntmps158 (by simp) hμ ?_
 have j : ∀ (w : World) (μc : Mem), MOk μc w → MLe μ μc → aV 147 #[.agg (aY t (.slice A t.kids.length c)).toArray, .int .i64 32] w (.bool (fT t 32)) := fun w μc hw hle => pC 32 t _ w μc hw (hk.mono hle) hs
 by_cases h0 : t.kids.length = 0
 ·have hg : zJ t = false := by
   unfold zJ
   rw [QR (cF h0), gE]
  rw [hg]
  try repeat' (first | refine KO ?_ | refine K2 147 j ?_ | refine KZ ?_ | refine NB fun b => ?_ | (refine KB ?_ ?_ <;> intro p))
  all_goals (refine aJ rfl rfl ?_; simp_all)
 ·obtain ⟨k, r, a⟩ := gS (l := t.kids) (by intro e; rw [e] at h0; exact h0 rfl)
  obtain ⟨ad, x, rfl, hm, ae, h⟩ := f 0 k (by rw [a]; rfl)
  obtain ⟨A2, c2, rfl, v, d⟩ := h.form
  have aa := T.fN (t := t) (i := 0) (k := k) (by rw [a]; rfl)
  have af := eL k
  by_cases h1 : k.kids.length = 1
  ·obtain ⟨y, o⟩ := List.length_eq_one_iff.1 h1
   obtain ⟨ad2, x2, rfl, g, q, z⟩ := d 0 y (by rw [o]; rfl)
   have hg : zJ t = (fT t 32 && decide (y.op ≠ 64)) := by
    unfold zJ
    rw [QQ a o]
   rw [hg]
   try repeat' (first | refine KO ?_ | refine K2 147 j ?_ | (refine KV (b := by first | exact U1 0 | exact U4 hm | exact U4 g) (c := ?_)) | refine KZ ?_ | refine NB fun b => ?_ | (refine KB ?_ ?_ <;> intro p))
   all_goals (refine aJ rfl rfl ?_; simp_all)
  ·have hg : zJ t = false := by
    unfold zJ
    rw [YZ a h1, gE]
   rw [hg]
   try repeat' (first | refine KO ?_ | refine K2 147 j ?_ | (refine KV (b := by first | exact U1 0 | exact U4 hm) (c := ?_)) | refine KZ ?_ | refine NB fun b => ?_ | (refine KB ?_ ?_ <;> intro p))
   all_goals (refine aJ rfl rfl ?_; simp_all; try omega)
theorem aB1 : rQ 133 rX := by
 intro t u w μ hμ hk hs e
 have ho := hk.one
 obtain ⟨A, c, rfl, q, d⟩ := hk.form
 have hlen := eL t
 refine aE (args := [.agg (aY t (.slice A t.kids.length c)).toArray]) Tryz.func133 rfl Tryz.ntmps133 (by simp) hμ ?_
 have h : ∀ (w : World) (μc : Mem), MOk μc w → MLe μ μc → aV 127 #[.agg (aY t (.slice A t.kids.length c)).toArray] w (.bool (cW t)) := fun w μc hw hle => EK t _ w μc hw (hk.mono hle) hs e
 by_cases h0 : t.kids.length = 1
 ·obtain ⟨k, a⟩ := List.length_eq_one_iff.1 h0
  obtain ⟨ad, x, rfl, hm, o, f⟩ := d 0 k (by rw [a]; rfl)
  obtain ⟨A2, c2, rfl, g, -⟩ := f.form
  have j := T.fN (t := t) (i := 0) (k := k) (by rw [a]; rfl)
  have p := eL k
  have hg : rX t = (cW t || decide (t.op = 2) && decide (k.kids.length = 1)) := by
   unfold rX
   rw [yU a, h0]
   simp
  rw [hg]
  try repeat' (first | refine KO ?_ | refine K2 127 h ?_ | (refine KV (b := by first | exact U1 0 | exact U4 hm) (c := ?_)) | refine KZ ?_ | refine NB fun b => ?_ | (refine KB ?_ ?_ <;> intro l))
  all_goals (refine aJ rfl rfl ?_; simp_all; try omega)
 ·have hg : rX t = cW t := by
   unfold rX
   rw [decide_eq_false h0]
   simp
  rw [hg]
  try repeat' (first | refine KO ?_ | refine K2 127 h ?_ | refine KZ ?_ | refine NB fun b => ?_ | (refine KB ?_ ?_ <;> intro l))
  all_goals (refine aJ rfl rfl ?_; simp_all; try omega)
theorem DZ (s : ByteArray) (hs : s.size ≤ 65536) (w : World) (μ : Mem) (hμ : MOk μ w) :
 aV 146 #[.string s] w (.bool (jU s)) := by
 refine aE (args := [.string s]) Tryz.func146 rfl Tryz.ntmps146 (by simp) hμ ?_
 try repeat' (refine KZ ?_)
 refine bW (ι := Nat) (fun i => i ≤ s.size ∧ ∀ (j : Nat) (c : UInt8), j < i → (bl s)[j]? = some c → xA j c) (fun i => s.size - i) (fun _ => μ) (fun i => [(8, .int .i64 i), (7, .int .i64 s.size), (0, .string s)]) (fun _ => []) 0 ⟨aI _, fun j _ h => absurd h (by omega)⟩ (fun a w hs => J6 hs) ?_
 rintro i ⟨hi, g⟩
 by_cases hlt : i < s.size
 ·obtain ⟨c, k, r⟩ := aAr (s := s) (i := i) hlt
  have q := c.toNat_lt
  have f : xA i c → ∀ (j : Nat) (d : UInt8), j < i + 1 → (bl s)[j]? = some d → xA j d := fun h j d t hd => by
   rcases cY j i with h1 | h1
   ·exact g j d h1 hd
   ·obtain rfl : j = i := by omega
    rw [k] at hd
    cases hd
    exact h
  have l : ¬xA i c → jU s = false := fun h => GU fun hf => h (hf.2 i c k)
  by_cases hk : xA i c
  ·have hb := f hk
   unfold xA QD UU at hk
   try repeat' (first | refine KO ?_ | (refine KV (b := by exact U2 i) (c := ?_)) | refine KZ ?_ | (refine KB ?_ ?_ <;> intro p))
   all_goals first
    | exact J4 (i + 1) ⟨by omega, hb⟩ (by omega)
    | (exfalso; omega)
  ·rw [l hk]
   unfold xA QD UU at hk
   try repeat' (first | refine KO ?_ | (refine KV (b := by exact U2 i) (c := ?_)) | refine KZ ?_ | (refine KB ?_ ?_ <;> intro p))
   all_goals first
    | exact aJ rfl rfl rfl
    | (exfalso; omega)
 ·obtain rfl : i = s.size := by omega
  have o : ∀ (j : Nat) (c : UInt8), (bl s)[j]? = some c → xA j c := fun j c hc => g j c (by have := (List.getElem?_eq_some_iff.1 hc).1; rw [BF] at this; exact this) hc
  have hg : jU s = decide (s ≠ ⟨#[]⟩) := by
   by_cases h : s = ⟨#[]⟩
   ·rw [GU fun hf => hf.1 (by rw [h]), h]
    simp
   ·rw [PG ⟨fun e => h (YJ e), o⟩]
    simp [h]
  rw [hg]
  try repeat' (refine KZ ?_)
  exact aJ rfl rfl rfl
theorem WN : rQ 160 nO := by
 intro t u w μ hμ hk hs a
 have ho := hk.one
 refine aE (args := [.agg (aY t u).toArray]) Tryz.func160 rfl Tryz.ntmps160 (by simp) hμ ?_
 try repeat' (first | refine KO ?_ | refine K2 146 (fun w μc hw c => DZ t.s a w μc hw) ?_ | refine KZ ?_ | refine NB fun b => ?_ | (refine KB ?_ ?_ <;> intro d))
 all_goals (refine aJ rfl rfl ?_; simp_all [nO])
end
section
open Go.RowKit Go.Vcg
def Cls (μ : Mem) (v : Value) (p : T → Bool) : Prop := ∃ (f : FuncId) (cap : List Value), v = .func (.func f) #[] cap.toArray ∧ gX Tryz.prog f = true ∧ ∀ (t : T) (u : Value) (w : World) (μ' : Mem), MOk μ' w → MLe μ μ' → KR μ' t.kids u → t.size ≤ 100000 → t.s.size ≤ 65536 →
 Calls Tryz.prog f ([Value.agg (aY t u).toArray] ++ cap).toArray w fun e w' => e = .returned (.bool (p t)) ∧ Below w.heap.size w w'
theorem Cls.mono {μ μ' : Mem} {v : Value} {p : T → Bool} (h : Cls μ v p) (hle : MLe μ μ') : Cls μ' v p := by
 obtain ⟨f, cap, h1, h2, h3⟩ := h
 exact ⟨f, cap, h1, h2, fun t u w μ2 hw hl => h3 t u w μ2 hw (hle.trans hl)⟩
theorem Cls.of {f : FuncId} {p : T → Bool} (h : rQ f p) (hf : gX Tryz.prog f = true) (μ : Mem) : Cls μ (.func (.func f) #[] #[]) p :=
 ⟨f, [], rfl, hf, fun t u w μ' hw _ hk hs a => h t u w μ' hw hk hs a⟩
abbrev aAm (x : Int) : List Value := [.int .i64 x]
abbrev aGq (v : Value) : List Value := [v]
def firstT (qs : List Bool) : Int := match qs.findIdx? id with | some i => i | none => -1
theorem qR {qs : List Bool} {k : Nat} (h : qs[k]? = some true) (hn : ∀ (j : Nat) (q : Bool), j < k → qs[j]? = some q → q = false) : firstT qs = k := by
 have hlt := (List.getElem?_eq_some_iff.1 h).1
 have : qs.findIdx? id = some k := by
  rw [List.findIdx?_eq_some_iff_getElem]
  refine ⟨hlt, ?_, fun j a => ?_⟩
  ·have := (List.getElem?_eq_some_iff.1 h).2
   simp [this]
  ·have := hn j _ a (aA (by omega))
   simp [this]
 unfold firstT
 rw [this]
theorem nU {qs : List Bool} (hn : ∀ (j : Nat) (q : Bool), qs[j]? = some q → q = false) : firstT qs = -1 := by
 have : qs.findIdx? id = none := by
  rw [List.findIdx?_eq_none_iff]
  intro x a
  obtain ⟨i, hi⟩ := List.mem_iff_getElem?.1 a
  exact hn i x hi
 unfold firstT
 rw [this]
theorem pA (qs : List Bool) : decide (0 ≤ firstT qs) = qs.any id := by
 unfold firstT
 cases h : qs.findIdx? id with
 | none =>
   rw [List.findIdx?_eq_none_iff] at h
   simp only [show ¬(0 : Int) ≤ -1 by omega, decide_false]
   symm
   rw [List.any_eq_false]
   intro x a
   simpa using h x a
 | some i =>
   rw [List.findIdx?_eq_some_iff_getElem] at h
   obtain ⟨h1, h2, -⟩ := h
   have : (0 : Int) ≤ (i : Int) := by omega
   simp only [this, decide_true]
   symm
   rw [List.any_eq_true]
   exact ⟨qs[i], lA h1, h2⟩
theorem aKc (is : List Int) (x : Int) : (is.map fun y => decide (x = y)).any id = decide (x ∈ is) := by
 induction is with
 | nil => rfl
 | cons y r ih => simp only [aO, jK, ih, id_eq, aW, Bool.decide_or]
attribute [local irreducible] G GC GQ GA eN Calls IntKind.wrap Int.decLt Int.decLe
theorem index_spec (x : Int) (is : List Int) (A : Option Addr) (n c : Nat) (w : World) (μ : Mem) (hμ : MOk μ w) (l : Sl aAm 1 μ A n is) (hn : n ≤ 100000) :
 aV 172 #[.slice A n c, .int .i64 x] w (.int .i64 (firstT (is.map fun y => decide (x = y)))) := by
 refine aE (args := [.slice A n c, .int .i64 x]) Tryz.func172 rfl Tryz.ntmps172 (by simp) hμ ?_
 have r : (is.map fun y => decide (x = y)).length = n := by rw [aH]; exact l.1
 try repeat' (refine KZ ?_)
 refine bW (ι := Nat) (fun k => k ≤ n ∧ ∀ (j : Nat) (q : Bool), j < k → (is.map fun y => decide (x = y))[j]? = some q → q = false) (fun k => n - k) (fun _ => μ) (fun k => [(8, .int .i64 k), (7, .int .i64 n), (6, .slice A n c), (0, .slice A n c), (1, .int .i64 x)]) (fun _ => []) 0 ⟨by omega, fun j _ h => absurd h (by omega)⟩ (fun a w hs => J6 hs) ?_
 rintro k ⟨hk, hf⟩
 by_cases hlt : k < n
 ·have d : (is.map fun y => decide (x = y))[k]? = some ((is.map fun y => decide (x = y))[k]'(by omega)) := aA (by omega)
  generalize (is.map fun y => decide (x = y))[k]'(by omega) = q at d
  have f : q = false → ∀ (j : Nat) (q : Bool), j < k + 1 → (is.map fun y => decide (x = y))[j]? = some q → q = false := fun h j p t i => by
   rcases cY j k with h1 | h1
   ·exact hf j p h1 i
   ·obtain rfl : j = k := by omega
    rw [d] at i
    cases i
    exact h
  obtain ⟨ad, y, rfl, o, hm⟩ := l.get hlt
  have e : q = decide (x = y) := by
   rw [aN, o] at d
   exact (cX d).symm
  cases g : q
  ·have hb := f g
   rw [g] at e
   have hne : ¬ x = y := of_decide_eq_false e.symm
   try repeat' (first | refine KO ?_ | (refine KV (b := by first | exact U1 k | exact U3 (hm.at 0 rfl)) (c := ?_)) | refine KZ ?_)
   all_goals exact J4 (k + 1) ⟨by omega, hb⟩ (by omega)
  ·rw [g] at e d
   have he : x = y := of_decide_eq_true e.symm
   try repeat' (first | refine KO ?_ | (refine KV (b := by first | exact U1 k | exact U3 (hm.at 0 rfl)) (c := ?_)))
   all_goals (refine aJ rfl rfl ?_; rw [qR d hf])
 ·try repeat' (refine KZ ?_)
  refine aJ rfl rfl ?_
  rw [nU fun j q g => hf j q (by have := (List.getElem?_eq_some_iff.1 g).1; omega) g]
theorem AG (x : Int) (is : List Int) (A : Option Addr) (n c : Nat) (w : World) (μ : Mem) (hμ : MOk μ w) (b : Sl aAm 1 μ A n is) (hn : n ≤ 100000) :
 aV 155 #[.slice A n c, .int .i64 x] w (.bool (decide (x ∈ is))) := by
 refine aE (args := [.slice A n c, .int .i64 x]) Tryz.func155 rfl Tryz.ntmps155 (by simp) hμ ?_
 rw [← aKc, ← pA]
 try repeat' (first | refine KO ?_ | ((with_reducible apply C1); exact rfl; exact EN; exact fun w μc hw a => index_spec x is A n c w μc hw (b.mono a.le) hn))
 exact aJ rfl rfl rfl
theorem TD (f : FuncId) (cap : List Value) (q1 : T → Bool) (ks : List T) (A : Option Addr) (n c : Nat) (w : World) (μ : Mem) (hμ : MOk μ w) (af : gX Tryz.prog f = true) (hk : KR μ ks (.slice A n c)) (ab : ks.length = n) (ae : ∀ (t : T) (u : Value) (w : World) (μ' : Mem), t ∈ ks → MOk μ' w → MLe μ μ' → KR μ' t.kids u → Calls Tryz.prog f ([Value.agg (aY t u).toArray] ++ cap).toArray w fun e w' => e = .returned (.bool (q1 t)) ∧ Below w.heap.size w w') (hn : n ≤ 100000) :
 aV 170 #[.slice A n c, .func (.func f) #[] cap.toArray] w (.int .i64 (firstT (ks.map q1))) := by
 refine aE (args := [.slice A n c, .func (.func f) #[] cap.toArray]) Tryz.func170 rfl Tryz.ntmps170 (by simp) hμ ?_
 have v : ∀ (i : Nat) (t : T), ks[i]? = some t → ∃ a u, A = some a ∧ eM μ (a.add (i * 6)) (aY t u) ∧ u.oneCell' = true ∧ KR μ t.kids u := by
  obtain ⟨A', c', e, _, hg⟩ := hk.form
  cases e
  exact hg
 have ag : (ks.map q1).length = n := by rw [aH]; exact ab
 try repeat' (refine KZ ?_)
 refine bW (ι := Nat) (fun k => k ≤ n ∧ ∀ (j : Nat) (q : Bool), j < k → (ks.map q1)[j]? = some q → q = false) (fun k => n - k) (fun _ => μ) (fun k => [(8, .int .i64 k), (7, .int .i64 n), (6, .slice A n c), (0, .slice A n c), (1, .func (.func f) #[] cap.toArray)]) (fun _ => []) 0 ⟨by omega, fun j _ h => absurd h (by omega)⟩ (fun a w hs => J6 hs) ?_
 rintro k ⟨hk, hf⟩
 by_cases hlt : k < n
 ·have d : (ks.map q1)[k]? = some ((ks.map q1)[k]'(by omega)) := aA (by omega)
  generalize (ks.map q1)[k]'(by omega) = q at d
  have o : q = false → ∀ (j : Nat) (q : Bool), j < k + 1 → (ks.map q1)[j]? = some q → q = false := fun h j p hj z => by
   rcases cY j k with h1 | h1
   ·exact hf j p h1 z
   ·obtain rfl : j = k := by omega
    rw [d] at z
    cases z
    exact h
  have g : ks[k]? = some ks[k] := aA (by omega)
  generalize ks[k] = t at g
  obtain ⟨ad, x, rfl, hm, ho, aa⟩ := v k t g
  have y : q = q1 t := by
   rw [aN, g] at d
   exact (cX d).symm
  have hc := fun w μc hw (hle : MLe μ μc) => ae t x w μc (aB g) hw hle (aa.mono hle)
  rw [← y] at hc
  cases r : q
  ·have hb := o r
   rw [r] at hc
   try repeat' (first | refine KO ?_ | ((with_reducible apply C1); exact rfl; exact EN; exact fun w μc hw l => hc w μc hw l.le) | (refine KV (b := by first | exact U1 k | exact U4 hm) (c := ?_)) | refine KZ ?_)
   exact J4 (k + 1) ⟨by omega, hb⟩ (by omega)
  ·rw [r] at hc d
   try repeat' (first | refine KO ?_ | ((with_reducible apply C1); exact rfl; exact EN; exact fun w μc hw l => hc w μc hw l.le) | (refine KV (b := by first | exact U1 k | exact U4 hm) (c := ?_)))
   refine aJ rfl rfl ?_
   rw [qR d hf]
 ·try repeat' (refine KZ ?_)
  refine aJ rfl rfl ?_
  rw [nU fun j q r => hf j q (by have := (List.getElem?_eq_some_iff.1 r).1; omega) r]
theorem TG (f : FuncId) (cap : List Value) (qs : List Bool) (vs : List Value) (A : Option Addr) (n c : Nat) (w : World) (μ : Mem) (hμ : MOk μ w) (x : gX Tryz.prog f = true) (z : Sl aGq 1 μ A n vs) (hone : ∀ v ∈ vs, v.oneCell' = true) (r : qs.length = n) (u : ∀ (i : Nat) (v : Value) (q : Bool) (w : World) (μ' : Mem), vs[i]? = some v → qs[i]? = some q → MOk μ' w → MLe μ μ' → Calls Tryz.prog f ([v] ++ cap).toArray w fun e w' => e = .returned (.bool q) ∧ Below w.heap.size w w') (hn : n ≤ 100000) :
 aV 171 #[.slice A n c, .func (.func f) #[] cap.toArray] w (.int .i64 (firstT (qs))) := by
 refine aE (args := [.slice A n c, .func (.func f) #[] cap.toArray]) Tryz.func171 rfl Tryz.ntmps171 (by simp) hμ ?_
 have y : (qs).length = n := by exact r
 try repeat' (refine KZ ?_)
 refine bW (ι := Nat) (fun k => k ≤ n ∧ ∀ (j : Nat) (q : Bool), j < k → (qs)[j]? = some q → q = false) (fun k => n - k) (fun _ => μ) (fun k => [(8, .int .i64 k), (7, .int .i64 n), (6, .slice A n c), (0, .slice A n c), (1, .func (.func f) #[] cap.toArray)]) (fun _ => []) 0 ⟨by omega, fun j _ h => absurd h (by omega)⟩ (fun a w hs => J6 hs) ?_
 rintro k ⟨hk, hf⟩
 by_cases hlt : k < n
 ·have d : (qs)[k]? = some ((qs)[k]'(by omega)) := aA (by omega)
  generalize (qs)[k]'(by omega) = q at d
  have l : q = false → ∀ (j : Nat) (q : Bool), j < k + 1 → (qs)[j]? = some q → q = false := fun h j p hj t => by
   rcases cY j k with h1 | h1
   ·exact hf j p h1 t
   ·obtain rfl : j = k := by omega
    rw [d] at t
    cases t
    exact h
  obtain ⟨ad, v, rfl, hv, hm⟩ := z.get hlt
  have ho := hone v (aB hv)
  have hc := fun w μc hw (hle : MLe μ μc) => u k v q w μc hv d hw hle
  cases o : q
  ·have hb := l o
   rw [o] at hc
   try repeat' (first | refine KO ?_ | ((with_reducible apply C1); exact rfl; exact EN; exact fun w μc hw g => hc w μc hw g.le) | (refine KV (b := by first | exact U1 k | exact U3 (hm.at 0 rfl)) (c := ?_)) | refine KZ ?_)
   exact J4 (k + 1) ⟨by omega, hb⟩ (by omega)
  ·rw [o] at hc d
   try repeat' (first | refine KO ?_ | ((with_reducible apply C1); exact rfl; exact EN; exact fun w μc hw g => hc w μc hw g.le) | (refine KV (b := by first | exact U1 k | exact U3 (hm.at 0 rfl)) (c := ?_)))
   refine aJ rfl rfl ?_
   rw [qR d hf]
 ·try repeat' (refine KZ ?_)
  refine aJ rfl rfl ?_
  rw [nU fun j q o => hf j q (by have := (List.getElem?_eq_some_iff.1 o).1; omega) o]
end
section
open Go.RowKit Go.Vcg
theorem BU {b t sz i : Nat} {cs : bP} {v : Value} {μ : Mem} (h : Bk.sh (.inl ⟨b, t, sz, cs⟩) μ) (hv : lk cs i = some v) : oA μ ⟨b, i, none⟩ v :=
 let ⟨arr, h1, _, h3⟩ := h
 ⟨arr, t, (0, 0), h1, rfl, h3 i v hv⟩
theorem aBo {b ty : Nat} {t : T} {u : Value} {cs : bP} {μ : Mem} (h : Bk.sh (.inl ⟨b, ty, 6, cs⟩) μ) (hc : LC cs 0 6 (aY t u)) : eM μ ⟨b, 0, none⟩ (aY t u) := by
 have d := cI (enc := xY) (sz := 6) (n := 1) (l := [(t, u)]) h rfl (by simp) (by simpa using hc)
 obtain ⟨a, e, c⟩ := d.2 (by omega)
 cases e
 exact c 0 (t, u) rfl
def iS (p : T → Bool) (a b : Int) (ks : List T) : Bool := decide (a ≤ (ks.length : Int)) && (decide (b < 0) || decide ((ks.length : Int) ≤ b)) && ks.all p
theorem aAu (p : T → Bool) (ks : List T) : (!(ks.any fun t => !p t)) = ks.all p := by
 induction ks with
 | nil => rfl
 | cons k r ih => simp [jK, kT, ← ih]
def ofT (is : List Int) (t : T) : Bool := decide (t.op ∈ is)
attribute [local irreducible] G GC GQ GA eN Calls IntKind.wrap Int.decLt Int.decLe
theorem yE (f : FuncId) (cap : List Value) (q1 : T → Bool) (ks : List T) (A : Option Addr) (n c : Nat) (w : World) (μ : Mem) (hμ : MOk μ w) (b : gX Tryz.prog f = true) (hk : KR μ ks (.slice A n c)) (d : ks.length = n) (g : ∀ (t : T) (u : Value) (w : World) (μ' : Mem), t ∈ ks → MOk μ' w → MLe μ μ' → KR μ' t.kids u → Calls Tryz.prog f ([Value.agg (aY t u).toArray] ++ cap).toArray w fun e w' => e = .returned (.bool (q1 t)) ∧ Below w.heap.size w w') (hn : n ≤ 100000) :
 aV 149 #[.slice A n c, .func (.func f) #[] cap.toArray] w (.bool (ks.any q1)) := by
 refine aE (args := [.slice A n c, .func (.func f) #[] cap.toArray]) Tryz.func149 rfl Tryz.ntmps149 (by simp) hμ ?_
 have h : decide (0 ≤ firstT (ks.map q1)) = ks.any q1 := by rw [pA, hH]; rfl
 rw [← h]
 try repeat' (first | refine KO ?_ | ((with_reducible apply C1); exact rfl; exact EN; exact fun w μc hw a => TD f cap q1 ks A n c w μc hw b (hk.mono a.le) d (fun t u w μ' h1 h2 h3 h4 => g t u w μ' h1 h2 (a.le.trans h3) h4) hn))
 exact aJ rfl rfl rfl
theorem JV (f : FuncId) (cap : List Value) (qs : List Bool) (vs : List Value) (A : Option Addr) (n c : Nat) (w : World) (μ : Mem) (hμ : MOk μ w) (b : gX Tryz.prog f = true) (h : Sl aGq 1 μ A n vs) (hone : ∀ v ∈ vs, v.oneCell' = true) (d : qs.length = n) (g : ∀ (i : Nat) (v : Value) (q : Bool) (w : World) (μ' : Mem), vs[i]? = some v → qs[i]? = some q → MOk μ' w → MLe μ μ' → Calls Tryz.prog f ([v] ++ cap).toArray w fun e w' => e = .returned (.bool q) ∧ Below w.heap.size w w') (hn : n ≤ 100000) :
 aV 152 #[.slice A n c, .func (.func f) #[] cap.toArray] w (.bool (qs.any id)) := by
 refine aE (args := [.slice A n c, .func (.func f) #[] cap.toArray]) Tryz.func152 rfl Tryz.ntmps152 (by simp) hμ ?_
 rw [← pA]
 try repeat' (first | refine KO ?_ | ((with_reducible apply C1); exact rfl; exact EN; exact fun w μc hw a => TG f cap qs vs A n c w μc hw b (h.mono a.le) hone d (fun i v q w μ' h1 h2 h3 h4 => g i v q w μ' h1 h2 h3 (a.le.trans h4)) hn))
 exact aJ rfl rfl rfl
theorem aCx (v : Value) (p : T → Bool) (t : T) (u : Value) (bc : Nat) (w : World) (μ : Mem) (hμ : MOk μ w) (hc : Cls μ v p) (hcell : oA μ ⟨bc, 0, none⟩ v) (hk : KR μ t.kids u) (hs : t.size ≤ 100000) (d : t.s.size ≤ 65536) :
 Calls Tryz.prog 150 ([Value.agg (aY t u).toArray] ++ [Value.pointer (some ⟨bc, 0, none⟩)]).toArray w fun e w' => e = .returned (.bool (!p t)) ∧ Below w.heap.size w w' := by
 have ho := hk.one
 obtain ⟨f, cap, rfl, g, hf⟩ := hc
 refine aE (args := [.agg (aY t u).toArray, .pointer (some ⟨bc, 0, none⟩)]) Tryz.func150 rfl Tryz.ntmps150 (by simp) hμ ?_
 try repeat' (first | refine KO ?_ | ((with_reducible apply C1); exact rfl; exact EN; exact fun w μc hw a => hf t u w μc hw a.le (hk.mono a.le) hs d) | (refine KV (b := by ((with_reducible apply jR); exact rfl; exact rfl; exact hcell)) (c := ?_)) | refine KZ ?_ | refine NB fun b => ?_)
 exact aJ rfl rfl rfl
theorem mD (p : T → Bool) (v : Value) (x y : Int) (ks : List T) (A : Option Addr) (n c : Nat) (w : World) (μ : Mem) (hμ : MOk μ w) (hc : Cls μ v p) (hk : KR μ ks (.slice A n c)) (e : ks.length = n) (hn : n ≤ 100000) (d : ∀ k ∈ ks, T.size k ≤ 100000 ∧ k.s.size ≤ 65536) :
 aV 119 #[.slice A n c, v, .int .i64 x, .int .i64 y] w (.bool (iS p x y ks)) := by
 have g := hc
 obtain ⟨f, cap, rfl, h, hf⟩ := g
 refine aE (args := [.slice A n c, .func (.func f) #[] cap.toArray, .int .i64 x, .int .i64 y]) Tryz.func119 rfl Tryz.ntmps119 (by simp) hμ ?_
 try repeat' (first | refine KZ ?_ | ((with_reducible apply C1); exact rfl; exact EN; exact fun w μc hw a => yE 150 [.pointer (some ⟨b, 0, none⟩)] (fun t => !p t) ks A n c w μc hw (by kernel_rfl) (hk.mono a.le) e (fun t u w μ' h1 h2 h3 h4 => aCx _ p t u b w μ' h2 (hc.mono (a.le.trans h3)) ((BU a.hd rfl).mono h3) h4 (d t h1).1 (d t h1).2) hn) | refine NB fun b => ?_ | (refine KB ?_ ?_ <;> intro i))
 all_goals (refine aJ rfl rfl ?_; simp_all [iS, aAu, ← aAu]; try omega)
end
section
open Go.RowKit Go.Vcg
def eiT (ps : List (T → Bool)) (t : T) : Bool := ps.any fun p => p t
def bV (μ : Mem) (vs : List Value) (ps : List (T → Bool)) : Prop := vs.length = ps.length ∧ ∀ (i : Nat) (v : Value) (p : T → Bool), vs[i]? = some v → ps[i]? = some p → Cls μ v p
theorem bV.mono {μ μ' : Mem} {vs : List Value} {ps : List (T → Bool)} (h : bV μ vs ps) (hle : MLe μ μ') : bV μ' vs ps := ⟨h.1, fun i v p hv a => (h.2 i v p hv a).mono hle⟩
theorem bV.nil (μ : Mem) : bV μ [] [] := ⟨rfl, fun i v p h => by simp at h⟩
theorem bV.cons {μ : Mem} {v : Value} {p : T → Bool} {vs : List Value} {ps : List (T → Bool)} (h : Cls μ v p) (hr : bV μ vs ps) : bV μ (v :: vs) (p :: ps) :=
 ⟨by simp [hr.1], fun i v' p' hv a => by
   cases i with
   | zero => simp at hv a; subst hv; subst a; exact h
   | succ i => exact hr.2 i v' p' (by simpa using hv) (by simpa using a)⟩
theorem Cls.one {μ : Mem} {v : Value} {p : T → Bool} (h : Cls μ v p) : v.oneCell' = true := by
 obtain ⟨f, cap, rfl, _⟩ := h
 rfl
theorem bV.one {μ : Mem} {vs : List Value} {ps : List (T → Bool)} (h : bV μ vs ps) : ∀ v ∈ vs, v.oneCell' = true := fun v hv => by
 obtain ⟨i, hi⟩ := List.mem_iff_getElem?.1 hv
 have hlt := (List.getElem?_eq_some_iff.1 hi).1
 have a : i < ps.length := by rw [← h.1]; exact hlt
 exact (h.2 i v ps[i] hi (aA a)).one
attribute [local irreducible] G GC GQ GA eN Calls IntKind.wrap Int.decLt Int.decLe
theorem aEq (is : List Int) (A : Option Addr) (n c bx : Nat) (t : T) (u : Value) (w : World) (μ : Mem) (hμ : MOk μ w) (hcell : oA μ ⟨bx, 0, none⟩ (.slice A n c)) (d : Sl aAm 1 μ A n is) (hn : n ≤ 100000) (hk : KR μ t.kids u) :
 Calls Tryz.prog 154 ([Value.agg (aY t u).toArray] ++ [Value.pointer (some ⟨bx, 0, none⟩)]).toArray w fun e w' => e = .returned (.bool (ofT is t)) ∧ Below w.heap.size w w' := by
 have ho := hk.one
 refine aE (args := [.agg (aY t u).toArray, .pointer (some ⟨bx, 0, none⟩)]) Tryz.func154 rfl Tryz.ntmps154 (by simp) hμ ?_
 try repeat' (first | refine KO ?_ | ((with_reducible apply C1); exact rfl; exact EN; exact fun w μc hw a => AG t.op is A n c w μc hw (d.mono a.le) hn) | (refine KV (b := by ((with_reducible apply jR); exact rfl; exact rfl; exact hcell)) (c := ?_)) | refine KZ ?_ | refine NB fun b => ?_)
 exact aJ rfl rfl rfl
def KM (p : T → Bool) (μ : Mem) (v : Value) : Prop := Cls μ v p
theorem dZ (is : List Int) (A : Option Addr) (n c : Nat) (w : World) (μ : Mem) (hμ : MOk μ w) (f : Sl aAm 1 μ A n is) (hn : n ≤ 100000) :
 Calls Tryz.prog 122 #[.slice A n c] w fun e w' => ∃ v μ', e = .returned v ∧ tB w w' μ μ' ∧ KM (ofT is) μ' v := by
 refine aE (args := [.slice A n c]) Tryz.func122 rfl Tryz.ntmps122 (by simp) hμ ?_
 try repeat' (first | refine KZ ?_ | refine NB fun b => ?_)
 exact qI rfl (cN rfl) (fun μ' a hL => ⟨154, [.pointer (some ⟨b, 0, none⟩)], rfl, by kernel_rfl, fun t u w μ2 hw hl hk hs d => aEq is A n c b t u w μ2 hw ((BU (hL _ (aF ..)) rfl).mono hl) (f.mono (a.trans hl)) hn hk⟩)
theorem LA (v : Value) (p : T → Bool) (t : T) (u : Value) (bn : Nat) (w : World) (μ : Mem) (hμ : MOk μ w) (hc : Cls μ v p) (hm : eM μ ⟨bn, 0, none⟩ (aY t u)) (hk : KR μ t.kids u) (hs : t.size ≤ 100000) (d : t.s.size ≤ 65536) :
 Calls Tryz.prog 153 ([v] ++ [Value.pointer (some ⟨bn, 0, none⟩)]).toArray w fun e w' => e = .returned (.bool (p t)) ∧ Below w.heap.size w w' := by
 have ho := hk.one
 obtain ⟨f, cap, rfl, g, hf⟩ := hc
 refine aE (args := [.func (.func f) #[] cap.toArray, .pointer (some ⟨bn, 0, none⟩)]) Tryz.func153 rfl Tryz.ntmps153 (by simp) hμ ?_
 try repeat' (first | refine KO ?_ | ((with_reducible apply C1); exact rfl; exact EN; exact fun w μc hw a => hf t u w μc hw a.le (hk.mono a.le) hs d) | (refine KV (b := by exact U4 hm) (c := ?_)))
 exact aJ rfl rfl rfl
theorem PN (vs : List Value) (ps : List (T → Bool)) (A : Option Addr) (n c bx : Nat) (t : T) (u : Value) (w : World) (μ : Mem) (hμ : MOk μ w) (hcell : oA μ ⟨bx, 0, none⟩ (.slice A n c)) (r : Sl aGq 1 μ A n vs) (f : bV μ vs ps) (hn : n ≤ 100000) (hk : KR μ t.kids u) (hs : t.size ≤ 100000) (k : t.s.size ≤ 65536) :
 Calls Tryz.prog 151 ([Value.agg (aY t u).toArray] ++ [Value.pointer (some ⟨bx, 0, none⟩)]).toArray w fun e w' => e = .returned (.bool (eiT ps t)) ∧ Below w.heap.size w w' := by
 have ho := hk.one
 have l : (ps.map fun p => p t).length = n := by rw [aH, ← f.1]; exact r.1
 have h : (ps.map fun p => p t).any id = eiT ps t := by rw [hH]; rfl
 have key : ∀ (bn : Nat) (μc : Mem), MLe μ μc → eM μc ⟨bn, 0, none⟩ (aY t u) → ∀ (i : Nat) (v : Value) (q : Bool) (w : World) (μ' : Mem), vs[i]? = some v → (ps.map fun p => p t)[i]? = some q → MOk μ' w → MLe μc μ' → Calls Tryz.prog 153 ([v] ++ [Value.pointer (some ⟨bn, 0, none⟩)]).toArray w fun e w' => e = .returned (.bool q) ∧ Below w.heap.size w w' := by
  intro bn μc hle hm i v q w μ' hv g j a
  rw [aN] at g
  cases o : ps[i]? with
  | none => rw [o] at g; cases g
  | some p =>
    rw [o] at g
    cases g
    exact LA v p t u bn w μ' j ((f.2 i v p hv o).mono (hle.trans a)) (hm.mono a) (hk.mono (hle.trans a)) hs k
 refine aE (args := [.agg (aY t u).toArray, .pointer (some ⟨bx, 0, none⟩)]) Tryz.func151 rfl Tryz.ntmps151 (by simp) hμ ?_
 rw [← h]
 try repeat' (first | refine KO ?_ | ((with_reducible apply C1); exact rfl; exact EN; exact fun w μc hw d => JV 153 [.pointer (some ⟨b, 0, none⟩)] (ps.map fun p => p t) vs A n c w μc hw (by kernel_rfl) (r.mono d.le) f.one l (key b μc d.le (aBo d.hd (by repeat first | exact bZ | refine bH rfl ?_))) hn) | (refine KV (b := by ((with_reducible apply jR); exact rfl; exact rfl; exact hcell)) (c := ?_)) | refine KZ ?_ | refine NB fun b => ?_)
 exact aJ rfl rfl rfl
theorem iX (vs : List Value) (ps : List (T → Bool)) (A : Option Addr) (n c : Nat) (w : World) (μ : Mem) (hμ : MOk μ w) (g : Sl aGq 1 μ A n vs) (f : bV μ vs ps) (hn : n ≤ 100000) :
 Calls Tryz.prog 120 #[.slice A n c] w fun e w' => ∃ v μ', e = .returned v ∧ tB w w' μ μ' ∧ KM (eiT ps) μ' v := by
 refine aE (args := [.slice A n c]) Tryz.func120 rfl Tryz.ntmps120 (by simp) hμ ?_
 try repeat' (first | refine KZ ?_ | refine NB fun b => ?_)
 exact qI rfl (cN rfl) (fun μ' a hL => ⟨151, [.pointer (some ⟨b, 0, none⟩)], rfl, by kernel_rfl, fun t u w μ2 hw hl hk hs d => PN vs ps A n c b t u w μ2 hw ((BU (hL _ (aF ..)) rfl).mono hl) (g.mono (a.trans hl)) (f.mono (a.trans hl)) hn hk hs d⟩)
end
section
open Go.RowKit Go.Vcg
abbrev pB (x : Value × Int) : List Value := [x.1, .int .i64 x.2]
attribute [local irreducible] G GC GQ GA eN Calls IntKind.wrap Int.decLt Int.decLe
theorem fY (vs : List Value) (A : Option Addr) (n c : Nat) (w : World) (μ : Mem) (hμ : MOk μ w) (g : Sl aGq 1 μ A n vs) (hone : ∀ v ∈ vs, ∃ (f : FuncId) (cap : List Value), v = .func (.func f) #[] cap.toArray) (hn : n ≤ 100000) :
 Calls Tryz.prog 125 #[.slice A n c] w (pV w 150 2 n (vs.flatMap fun v => pB (v, 0))) := by
 refine aE (args := [.slice A n c]) Tryz.func125 rfl Tryz.ntmps125 (by simp) hμ ?_
 try repeat' (refine KZ ?_)
 refine bW (ι := Nat × Value) (fun i => i.1 ≤ n) (fun i => n - i.1) (fun _ => μ) (fun i => [(8, .int .i64 i.1), (7, .int .i64 n), (6, .slice A n c), (3, i.2)]) (fun i => [.inr ⟨i.2, 150, 2, i.1, (vs.take i.1).flatMap fun v => pB (v, 0)⟩]) (0, .slice none 0 0) (by simp) (fun a w hs => (hs.vN 150 2).sub PU (by repeat exact bE _)) ?_
 rintro ⟨k, v⟩ hk
 have h : k ≤ n := hk
 dsimp only
 by_cases hlt : k < n
 ·obtain ⟨ad, x, rfl, e, hm⟩ := g.get hlt
  obtain ⟨f, cap, rfl⟩ := hone x (aB e)
  have hs : ((vs.take (k + 1)).flatMap fun v => pB (v, 0)) = ((vs.take k).flatMap fun v => pB (v, 0)) ++ pB (.func (.func f) #[] cap.toArray, 0) := by
   obtain ⟨d, he⟩ := List.getElem?_eq_some_iff.1 e
   rw [gY d, cG, he]
   simp only [bU, List.flatMap_nil, fI]
  try repeat' (first | refine KO ?_ | (((with_reducible apply oZ); (iterate 3 exact rfl); (repeat first | with_reducible exact fE | with_reducible apply fV); (iterate 6 exact rfl); (((with_reducible apply jS); exact rfl; (repeat with_reducible exact fO); exact rfl)); (exact rfl); ((exact gB (by (repeat first | with_reducible exact fS | ((with_reducible apply eY); (exact rfl)))))); omega; omega; intro v)) | (refine KV (b := by first | exact U1 k | exact U3 (hm.at 0 rfl)) (c := ?_)) | refine KZ ?_ | refine NB fun b => ?_)
  refine GR (k + 1, _) (by show k + 1 ≤ n; omega) (by show n - (k + 1) < n - k; omega) rfl PU ?_
  dsimp only
  rw [hs]
  exact (by repeat first | exact bE _ | refine dG ?_)
 ·try repeat' (refine KZ ?_)
  obtain rfl : k = n := by omega
  rw [aG (by rw [g.1]; omega)]
  exact nG 0 rfl rfl rfl
end
end Go.Proofs.YtlllalmkkaolfaaGreatDoor
