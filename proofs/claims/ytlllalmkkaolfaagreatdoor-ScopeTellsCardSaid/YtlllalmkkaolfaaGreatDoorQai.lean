/- Package scope: the resolution of names as plain functions. -/
import Derived.Test.YtlllalmkkaolfaaGreatDoorQah
set_option maxRecDepth 20000
set_option maxHeartbeats 2000000
namespace Go.Proofs.YtlllalmkkaolfaaGreatDoor
section
open Go.RowKit Go.Vcg
structure Us where
 (at' scope wh hops slot kind : Int) (name : ByteArray) (check : Bool)
structure Ux where
 (u : Us) (ts tb : Nat) (found : Bool) (fn : Int)
structure Wh where
 (scope fn : Int) (decl : Bool)
structure FS where
 (scopes : List Sc) (uses : List Ux) (funcs : Nat) (cases : List (Int × Int)) (heads : List (Int × Bool)) (done : List ((Int × Int) × Int))
def jG (t : T) (b : Int) : Bool := decide (t.op = 4) && decide (anI t.n b ≠ 0)
def dM (t : T) (i : Nat) : T := (t.kids[i]?).getD T.zero
def jN (x : ByteArray) (k : Int) : List Bd → List Bd
 | [] => [⟨x, k, false, 0⟩]
 | b :: r => if b.name = x then (if k = 3 then { b with kind := k } :: r else b :: r) else b :: jN x k r
def dU (k : Int) (xs : List ByteArray) (l : List Bd) : List Bd := xs.foldl (fun l x => jN x k l) l
def eP (t : T) (l : List Bd) : List Bd := t.kids.foldl (fun l d => dU t.n (bD (dM d 0)) l) l
def bN (kids : List T) (funcs : Bool) (l : List Bd) : List Bd := kids.foldl (fun l t => if t.op = 2 ∧ t.n ≠ 0 then eP t l else if (jG t 1 && funcs) = true then jN t.s 3 l else l) l
def dV : Nat → T → List Bd → List Bd
 | 0, _, l => l
 | f + 1, t, l => if t.op = 4 then l else t.kids.foldl (fun l k => dV f k l) (if t.op = 2 ∧ t.n = 0 then eP t l else l)
def eG (f : Nat) (t : T) : List Bd :=
 let l := dV f (dM t 0) (dU 4 (bD (dM t 0)) [])
 if (dM t 1).op ≠ 6 ∨ jG t 128 = true then dV f (dM t 1) l
 else (dM t 1).kids.foldl (fun l k => dV f k (bN [k] true l)) l
def lO (kind at' : Int) (w : Wh) (l : List Bd) (s : FS) : FS := { s with scopes := s.scopes ++ [⟨w.scope, w.fn, kind, at', l⟩] }
def qA (w : Wh) (s : FS) : Wh := { w with scope := (s.scopes.length : Int) }
def kA (kind at' : Int) (w : Wh) (l : List Bd) (s : FS) : FS := if l.length = 0 then s else lO kind at' w l s
def fU (w : Wh) (l : List Bd) (s : FS) : Wh := if l.length = 0 then w else qA w s
def mC (l : List Sc) (at' : Int) (x : ByteArray) : Option (Nat × Nat) := findF l x (at'.toNat + 1) at'
def nD (l : List Sc) (s b : Nat) : Int := (((l[s]?).bind fun c => c.names[b]?).map (·.kind)).getD 0
def CO (l : List Sc) (s : Nat) : Int := ((l[s]?).map (·.fn)).getD 0
def qJ (s : FS) (ts tb : Nat) (fn : Int) : Bool :=
 match oS ((ts : Int), (tb : Int)) s.done with
 | none => false
 | some k => decide (fn = CO s.scopes ts) && !((oS (ts : Int) s.heads).getD false) && decide (k = (oS (ts : Int) s.cases).getD 0)
def pF (t : T) (w : Wh) (s : FS) : FS :=
 let u : Ux := match mC s.scopes w.scope t.s with
  | none => ⟨⟨t.at', w.scope, 2, 0, 0, 0, t.s, false⟩, 0, 0, false, w.fn⟩
  | some (a, b) =>
    let k := nD s.scopes a b
    ⟨⟨t.at', w.scope, 2, 0, 0, k, t.s, (decide (k = 1) || decide (k = 2)) && !w.decl && !qJ s a b w.fn⟩, a, b, true, w.fn⟩
 { s with uses := s.uses ++ [u] }
section
variable (N : T → Wh → FS → FS) (fu : Nat)
def uJ (l : List T) (w : Wh) (s : FS) : FS := l.foldl (fun s k => N k w s) s
def JD (t : T) (w : Wh) (s : FS) : FS :=
 let s1 := { s with funcs := s.funcs + 1 }
 let w1 := { w with fn := ((s.funcs + 1 : Nat) : Int) }
 let c : Bool := !decide (t.s = ⟨#[]⟩) && !jG t 1
 let s2 := if c = true then lO 5 t.at' w1 [⟨t.s, 7, false, 0⟩] s1 else s1
 let w2 := if c = true then qA w1 s1 else w1
 let s3 := lO 1 t.at' w2 (eG fu t) s2
 let w3 := qA w2 s2
 let s4 := N (dM t 0) w3 s3
 if (dM t 1).op = 6 ∧ jG t 128 = false then uJ N (dM t 1).kids w3 s4 else N (dM t 1) w3 s4
def zX (t : T) (w : Wh) (s : FS) : FS :=
 let h := dM t 0
 let c : Bool := decide (h.op = 2) && !decide (h.n = 0)
 let s1 := if c = true then kA 3 t.at' w (eP h []) s else s
 let w1 := if c = true then fU w (eP h []) s else w
 (t.kids.zipIdx).foldl (fun s k =>
   if k.2 = 1 ∧ t.op ≠ 10 ∧ w1.scope ≠ w.scope then
    let s2 := N k.1 w1 { s with heads := kM w1.scope true s.heads }
    { s2 with heads := zN w1.scope s2.heads }
   else N k.1 w1 s) s1
def rG (t : T) (w : Wh) (s : FS) : FS :=
 let l := (t.kids.drop 1).foldl (fun l k => bN k.kids true l) []
 let s1 := kA 2 t.at' w l s
 let w1 := fU w l s
 let s2 := N (dM t 0) w s1
 ((t.kids.drop 1).zipIdx).foldl (fun s k => N k.1 w1 (if w1.scope ≠ w.scope then { s with cases := kM w1.scope (k.2 : Int) s.cases } else s)) s2
def yB (t : T) (w : Wh) (s : FS) : FS :=
 let s1 := N (dM t 0) { w with decl := true } s
 let s2 := uJ N (t.kids.drop 1) w s1
 (bD (dM t 0)).foldl (fun s x => match mC s.scopes w.scope x with
   | some (a, b) => { s with done := kM ((a : Int), (b : Int)) ((oS (a : Int) s.cases).getD 0) s.done }
   | none => s) s2
def uF (t : T) (w : Wh) (s : FS) : FS :=
 (t.kids.zipIdx).foldl (fun s k =>
   if t.op = 60 ∨ t.op = 61 ∨ t.op = 64 ∨ (t.op = 63 ∧ k.2 = 0) ∨ (t.op = 62 ∧ k.2 = 1) then N k.1 w s else N k.1 { w with decl := false } s) s
def zS (t : T) (w : Wh) (s : FS) : FS :=
 if t.op = 34 then pF t w s
 else if t.op = 4 then JD N fu t { w with decl := false } s
 else if t.op = 6 then uJ N t.kids (fU w (bN t.kids true []) s) (kA 2 t.at' w (bN t.kids true []) s)
 else if t.op = 21 then rG N t w s
 else if t.op = 10 ∨ t.op = 11 ∨ t.op = 12 then zX N t w s
 else if t.op = 20 then uJ N t.kids (fU w (dU 5 (bD (dM t 0)) []) s) (kA 4 t.at' w (dU 5 (bD (dM t 0)) []) s)
 else if t.op = 3 then yB N t w s
 else if t.op = 39 then (if t.n = 3 then pF (dM t 0) w s else uJ N t.kids w s)
 else uF N t w s
end
def nbS (fu : Nat) : Nat → T → Wh → FS → FS
 | 0 => fun _ _ s => s
 | f + 1 => zS (nbS fu f) fu
def nB (t : T) : FS := lO 0 t.at' ⟨-1, 0, false⟩ (bN t.kids false []) ⟨[], [], 0, [], [], []⟩
def iA (f : Nat) (t : T) : FS := uJ (nbS f f) t.kids ⟨0, 0, false⟩ (nB t)
def fG (l : List Sc) : Nat := (l.map fun s => s.names.length).sum
def wH (l : List Sc) (a b : Nat) : List Sc := l.modify a fun s => { s with names := s.names.modify b fun x => { x with held := true } }
def xL (us : List Ux) (l : List Sc) : List Sc := us.foldl (fun l u => if u.found = true ∧ u.fn ≠ CO l u.ts then wH l u.ts u.tb else l) l
end
section
open Go.RowKit Go.Vcg
theorem aBy (fn : Int) (l : List Sc) : mF fn (l.take 0) = 0 := by simp [mF]
theorem CG (fn : Int) (l : List Sc) (h : ∀ s ∈ l, s.names.length ≤ 10000000) (k : Nat) (hl : l.length ≤ 9000) : mF fn (l.take k) ≤ 90000000000 := by
 have h1 := ZT fn (l.take k) (fun s hs => h s (aZ hs))
 rw [cE] at h1
 omega
abbrev scs (ps : List (Sc × Value)) : List Sc := ps.map (·.1)
theorem jB {ps : List (Sc × Value)} {k : Nat} {y : Sc × Value} (h : ps[k]? = some y) : (scs ps)[k]? = some y.1 := by rw [aN, h]; rfl
attribute [local irreducible] gN mF fF findF G GC GQ GA eN Calls IntKind.wrap Int.decLt Int.decLe
section
variable (w : World) (μ : Mem) (hμ : MOk μ w)
include hμ
theorem HX (x : ByteArray) (l : List Bd) (v : Value) (hv : BdV μ l v) : aV 53 #[v, .string x] w (.int .i64 (match fF x l 0 with | some k => (k : Int) | none => -1)) := by
 obtain ⟨A, c, rfl, g, hl⟩ := hv
 generalize h : fF x l 0 = R
 refine aE (args := [.slice A l.length c, .string x]) Tryz.func53 rfl Tryz.ntmps53 (by simp) hμ ?_
 try repeat' (refine KZ ?_)
 refine bW (ι := Nat) (fun k => k ≤ l.length ∧ fF x (l.drop k) k = R) (fun k => l.length - k) (fun _ => μ) (fun k => [(5, .int .i64 (k : Int)), (0, .slice A l.length c), (1, .string x)]) (fun _ => []) 0 ⟨aI _, h⟩ (fun a w hs => J5 hs) ?_
 rintro k ⟨hk, d⟩
 by_cases hlt : k < l.length
 ·obtain ⟨ad, y, rfl, f, hm⟩ := g.get hlt
  rw [ET f] at d
  by_cases hn : y.name = x
  ·rw [if_pos hn] at d
   subst d
   try repeat' (first | refine KO ?_ | (refine KV (b := by first | exact U1 k | exact U4 hm) (c := ?_)) | refine KZ ?_)
   all_goals exact aJ rfl rfl rfl
  ·rw [if_neg hn] at d
   try repeat' (first | refine KO ?_ | (refine KV (b := by first | exact U1 k | exact U4 hm) (c := ?_)) | refine KZ ?_)
   all_goals exact J2 (k + 1) ⟨by omega, d⟩ (by omega)
 ·rw [bT (by omega)] at d
  have e : R = none := by rw [← d]; unfold fF; rfl
  subst e
  try repeat' (refine KZ ?_)
  all_goals exact aJ rfl rfl rfl
end
end
section
open Go.RowKit Go.Vcg
attribute [local irreducible] gN mF fF findF G GC GQ GA eN Calls IntKind.wrap Int.decLt Int.decLe
section
variable (w : World) (μ : Mem) (hμ : MOk μ w)
include hμ
theorem WE (ps : List (Sc × Value)) (A : Option Addr) (c : Nat) (r : ScR μ A ps) (at' : Int) (x : ByteArray) : aV 13 #[.slice A ps.length c, .int .i64 at', .string x] w (AA (findF (scs ps) x (at'.toNat + 1) at')) := by
 obtain ⟨hS, hl, o⟩ := r
 have q : (scs ps).length = ps.length := aH ..
 generalize hR : findF (scs ps) x (at'.toNat + 1) at' = R
 refine aE (args := [.slice A ps.length c, .int .i64 at', .string x]) Tryz.func13 rfl Tryz.ntmps13 (by simp) hμ ?_
 try repeat' (refine KZ ?_)
 refine bW (ι := Nat × Int) (fun i => findF (scs ps) x i.1 i.2 = R ∧ (i.2 < 0 ∨ i.2.toNat < i.1)) (fun i => i.1) (fun _ => μ) (fun i => [(0, .slice A ps.length c), (1, .int .i64 i.2), (2, .string x)]) (fun _ => []) (at'.toNat + 1, at') ⟨hR, .inr (by dsimp only; omega)⟩ (fun a w hs => J5 hs) ?_
 rintro ⟨f, a⟩ ⟨d, hf⟩
 dsimp only at d hf ⊢
 by_cases aa : 0 ≤ a ∧ a < ps.length
 ·obtain ⟨k, rfl⟩ : ∃ k : Nat, a = k := ⟨a.toNat, by omega⟩
  have hlt : k < ps.length := by omega
  obtain ⟨f, rfl⟩ : ∃ g, f = g + 1 := ⟨f - 1, by omega⟩
  obtain ⟨ad, y, rfl, hy, hm⟩ := hS.get hlt
  obtain ⟨s, v⟩ := y
  obtain ⟨A2, c2, hv, p, t⟩ := o _ (aB hy)
  dsimp only at hv p t hm
  subst hv
  rw [UA (jB hy)] at d
  dsimp only at d
  generalize hP : fF x s.names 0 = P at d
  try repeat' (first | refine KO ?_ | (refine KV (b := by first | exact U1 k | exact U4 hm) (c := ?_)) | refine KZ ?_)
  refine bW (ι := Nat) (fun j => j ≤ s.names.length ∧ fF x (s.names.drop j) j = P) (fun j => s.names.length - j) (fun _ => μ) (fun j => [(25, .int .i64 (j : Int)), (24, .int .i64 (s.names.length : Int)), (23, .slice A2 s.names.length c2), (0, .slice (some ad) ps.length c), (1, .int .i64 (k : Int)), (2, .string x)]) (fun _ => []) 0 ⟨aI _, hP⟩ (fun a w hs => J5 hs) ?_
  rintro j ⟨hj, e⟩
  by_cases u : j < s.names.length
  ·obtain ⟨ad2, z, rfl, hz, l⟩ := p.get u
   rw [ET hz] at e
   by_cases hn : z.name = x
   ·rw [if_pos hn] at e
    subst e
    subst d
    try repeat' (first | refine KO ?_ | (refine KV (b := by first | exact U1 j | exact U4 l) (c := ?_)) | refine KZ ?_ | refine NB fun b => ?_)
    all_goals exact DO rfl (by repeat first | exact jX | refine iI (by exact cN rfl) ?_) rfl rfl
   ·rw [if_neg hn] at e
    try repeat' (first | refine KO ?_ | (refine KV (b := by first | exact U1 j | exact U4 l) (c := ?_)) | refine KZ ?_ | refine NB fun b => ?_)
    all_goals exact J2 (j + 1) ⟨by omega, e⟩ (by omega)
  ·rw [bT (by omega)] at e
   have ae : P = none := by rw [← e]; unfold fF; rfl
   subst ae
   dsimp only at d
   by_cases h : s.up ≥ (k : Int)
   ·rw [if_pos h] at d
    subst d
    try repeat' (first | refine KO ?_ | (refine KV (b := by first | exact U1 k | exact U4 hm) (c := ?_)) | refine KZ ?_)
    all_goals exact DO rfl (by repeat first | exact jX | refine iI (by exact cN rfl) ?_) rfl rfl
   ·rw [if_neg h] at d
    try repeat' (first | refine KO ?_ | (refine KV (b := by first | exact U1 k | exact U4 hm) (c := ?_)) | refine KZ ?_)
    all_goals exact J2 (f, s.up) ⟨d, by dsimp only; omega⟩ (by dsimp only; omega)
 ·have ab : R = none := by rw [← d]; exact pK (by rw [q]; exact aa)
  subst ab
  by_cases h0 : 0 ≤ a
  all_goals try repeat' (refine KZ ?_)
  all_goals exact DO rfl (by repeat first | exact jX | refine iI (by exact cN rfl) ?_) rfl rfl
theorem VW (ps : List (Sc × Value)) (A : Option Addr) (c : Nat) (r : ScR μ A ps) (at' : Int) (x : ByteArray) : aV 30 #[.slice A ps.length c, .int .i64 at', .string x] w (AA (findF (scs ps) x (at'.toNat + 1) at')) := by
 obtain ⟨hS, hl, o⟩ := r
 have q : (scs ps).length = ps.length := aH ..
 generalize hR : findF (scs ps) x (at'.toNat + 1) at' = R
 refine aE (args := [.slice A ps.length c, .int .i64 at', .string x]) Tryz.func30 rfl Tryz.ntmps30 (by simp) hμ ?_
 try repeat' (refine KZ ?_)
 refine bW (ι := Nat × Int) (fun i => findF (scs ps) x i.1 i.2 = R ∧ (i.2 < 0 ∨ i.2.toNat < i.1)) (fun i => i.1) (fun _ => μ) (fun i => [(0, .slice A ps.length c), (1, .int .i64 i.2), (2, .string x)]) (fun _ => []) (at'.toNat + 1, at') ⟨hR, .inr (by dsimp only; omega)⟩ (fun a w hs => J5 hs) ?_
 rintro ⟨f, a⟩ ⟨d, hf⟩
 dsimp only at d hf ⊢
 by_cases t : 0 ≤ a ∧ a < ps.length
 ·obtain ⟨k, rfl⟩ : ∃ k : Nat, a = k := ⟨a.toNat, by omega⟩
  have hlt : k < ps.length := by omega
  obtain ⟨f, rfl⟩ : ∃ g, f = g + 1 := ⟨f - 1, by omega⟩
  obtain ⟨ad, y, rfl, z, hm⟩ := hS.get hlt
  obtain ⟨s, v⟩ := y
  have l := o _ (aB z)
  have e := fun w μc hw (hle : MLe μ μc) => HX w μc hw x s.names v (l.mono hle)
  have p := l.one
  dsimp only at hm p
  rw [UA (jB z)] at d
  dsimp only at d
  generalize fF x s.names 0 = P at d e
  cases P with
  | some j =>
    dsimp only at d e
    subst d
    try repeat' (first | refine KO ?_ | refine K2 53 e ?_ | (refine KV (b := by first | exact U1 k | exact U4 hm) (c := ?_)) | refine KZ ?_)
    all_goals exact DO rfl (by repeat first | exact jX | refine iI (by exact cN rfl) ?_) rfl rfl
  | none =>
    dsimp only at d e
    by_cases h : s.up ≥ (k : Int)
    ·rw [if_pos h] at d
     subst d
     try repeat' (first | refine KO ?_ | refine K2 53 e ?_ | (refine KV (b := by first | exact U1 k | exact U4 hm) (c := ?_)) | refine KZ ?_)
     all_goals exact DO rfl (by repeat first | exact jX | refine iI (by exact cN rfl) ?_) rfl rfl
    ·rw [if_neg h] at d
     try repeat' (first | refine KO ?_ | refine K2 53 e ?_ | (refine KV (b := by first | exact U1 k | exact U4 hm) (c := ?_)) | refine KZ ?_)
     all_goals exact J2 (f, s.up) ⟨d, by dsimp only; omega⟩ (by dsimp only; omega)
 ·have u : R = none := by rw [← d]; exact pK (by rw [q]; exact t)
  subst u
  by_cases h0 : 0 ≤ a
  all_goals try repeat' (refine KZ ?_)
  all_goals exact DO rfl (by repeat first | exact jX | refine iI (by exact cN rfl) ?_) rfl rfl
end
end
section
open Go.RowKit Go.Vcg
def hI (h c : Nat) : List Bd → List Bd
 | [] => []
 | b :: r => if b.held = true then { b with slot := (h : Int) } :: hI (h + 1) c r else { b with slot := (c : Int) } :: hI h (c + 1) r
theorem sV (b : Bd) (r : List Bd) : gN (b :: r) = gN r + if b.held = true then 1 else 0 := by
 unfold gN
 rw [mS]
theorem vM : ∀ (a b : List Bd) (h c : Nat), hI h c (a ++ b) = hI h c a ++ hI (h + gN a) (c + (a.length - gN a)) b
 | [], b, h, c => by simp [hI, gN]
 | x :: a, b, h, c => by
   have hl := CI a
   rw [aL, hI, hI, sV, bF]
   by_cases d : x.held = true
   ·rw [if_pos d, if_pos d, if_pos d, vM a b, aL]
    congr 3
    ·omega
    ·omega
   ·rw [if_neg d, if_neg d, if_neg d, vM a b, aL]
    congr 3
    omega
theorem mN : ∀ (l : List Bd) (h c : Nat), (hI h c l).length = l.length
 | [], _, _ => rfl
 | b :: r, h, c => by
   unfold hI
   split <;> simp [mN r]
theorem IK {l : List Bd} {k : Nat} {b : Bd} (h : l[k]? = some b) (c : Nat) : hI 0 c (l.take (k + 1)) = hI 0 c (l.take k) ++ [{ b with slot := if b.held = true then (gN (l.take k) : Int) else ((c + (k - gN (l.take k)) : Nat) : Int) }] := by
 have hlt := (List.getElem?_eq_some_iff.1 h).1
 rw [bQ, h, vM]
 congr 1
 have : (l.take k).length = k := by rw [cE]; omega
 rw [this, lX, hI]
 split
 ·rename_i hb; simp [hI, hb]
 ·rename_i hb; simp [hI, hb]
def nL (pre : List Sc) (s : Sc) : Sc := { s with names := hI 0 ((if s.fn = 0 then 1 else 0) + mF s.fn pre) s.names }
def kQ (pre : List Sc) : List Sc → List Sc
 | [] => []
 | s :: r => nL pre s :: kQ (pre ++ [s]) r
theorem EW : ∀ (a b pre : List Sc), kQ pre (a ++ b) = kQ pre a ++ kQ (pre ++ a) b
 | [], b, pre => by simp [kQ]
 | s :: a, b, pre => by
   rw [aL, kQ, kQ, EW a b, aL]
   simp
theorem aBl {l : List Sc} {k : Nat} {s : Sc} (h : l[k]? = some s) : kQ [] (l.take (k + 1)) = kQ [] (l.take k) ++ [nL (l.take k) s] := by
 rw [bQ, h, EW]
 simp [kQ]
theorem xB : ∀ (l pre : List Sc), (kQ pre l).length = l.length
 | [], _ => rfl
 | s :: r, pre => by simp [kQ, xB r]
attribute [local irreducible] gN mF fF findF hI kQ nL G GC GQ GA eN Calls IntKind.wrap Int.decLt Int.decLe
def aQn (ps : List (Sc × Value)) (μ : Mem) (v : Value) : Prop := ∃ A c qs, v = .slice A qs.length c ∧ ScR μ A qs ∧ scs qs = kQ [] (scs ps)
end
section
open Go.RowKit Go.Vcg
theorem yQ (pre : List Sc) (s : Sc) : nL pre s = ⟨s.up, s.fn, s.kind, s.at', hI 0 ((if s.fn = 0 then 1 else 0) + mF s.fn pre) s.names⟩ := rfl
theorem IJ (h c : Nat) (l : List Bd) : hI h c (l.take 0) = [] := rfl
theorem aBk (l : List Sc) : kQ [] (l.take 0) = [] := rfl
attribute [local irreducible] gN mF fF findF hI kQ nL G GC GQ GA eN Calls IntKind.wrap Int.decLt Int.decLe
theorem KU (w : World) (μ : Mem) (hμ : MOk μ w) (ps : List (Sc × Value)) (A : Option Addr) (c : Nat) (aq : ScR μ A ps) : Calls Tryz.prog 52 #[.slice A ps.length c] w fun e w' => ∃ v μ', e = .returned v ∧ tB w w' μ μ' ∧ aQn ps μ' v := by
 obtain ⟨hS, hl, u⟩ := aq
 have bb : (scs ps).length = ps.length := aH ..
 have ar : ∀ s ∈ scs ps, s.names.length ≤ 10000000 := fun s hs => by
  obtain ⟨p, hp, rfl⟩ := List.mem_map.1 hs
  obtain ⟨_, _, _, _, h⟩ := u p hp
  exact h.1
 refine aE (args := [.slice A ps.length c]) Tryz.func52 rfl Tryz.ntmps52 (by simp) hμ ?_
 try repeat' (refine KZ ?_)
 refine nH 43 5 ?_
 refine bW (ι := Nat × List (Sc × Value) × Mem × Value) (fun i => i.1 ≤ ps.length ∧ MLe μ i.2.2.1 ∧ scs i.2.1 = kQ [] ((scs ps).take i.1) ∧ i.2.1.length = i.1 ∧ ∀ q ∈ i.2.1, BdV i.2.2.1 q.1.names q.2) (fun i => ps.length - i.1) (fun i => i.2.2.1) (fun i => [(4, .int .i64 (i.1 : Int)), (3, i.2.2.2), (0, .slice A ps.length c)]) (fun i => [.inr ⟨i.2.2.2, 43, 5, i.2.1.length, i.2.1.flatMap eE⟩]) (0, [], μ, .slice none 0 0) ⟨aI _, MLe.refl _, (aBk _).symm, rfl, fun q hq => (by cases hq)⟩ (fun a w hs => J5 hs) ?_
 rintro ⟨i, qs, μ1, vo⟩ ⟨hi, hle, aa, ap, hq⟩
 dsimp only at hi hle aa ap hq ⊢
 refine fW 0 rfl ?_
 rintro A1 c1 rfl ba
 by_cases hlt : i < ps.length
 ·obtain ⟨ad, y, rfl, hy, av⟩ := hS.get hlt
  have hm := av.mono hle
  have a7 := hS.mono hle
  have o := aBl (jB hy)
  rw [← aa] at o
  obtain ⟨s, v⟩ := y
  obtain ⟨A2, c2, hv, al, a1⟩ := u _ (aB hy)
  dsimp only at hv al a1 hm o
  subst hv
  have hB := al.mono hle
  obtain ⟨n0, t, bc⟩ : ∃ n0 : Nat, (if s.fn = 0 then 1 else 0 : Nat) = n0 ∧ n0 ≤ 1 := ⟨_, rfl, by split <;> omega⟩
  rw [yQ, t] at o
  try repeat' (first | ((with_reducible show GC _ _ (Code.seq (Code.seq (Code.region 7 _ _) _) _) _ _ _ _); (apply dF)) | refine KO ?_ | (refine KV (b := by first | exact U1 i | exact U4 hm) (c := ?_)) | refine KZ ?_ | refine NB fun b => ?_)
  obtain ⟨bs, ak⟩ : ∃ y, y = b := ⟨_, rfl⟩
  rw [← ak]
  clear ak
  refine gcs ?_
  refine iB (ι := Unit) (fun _ => True) (fun _ => μ1) (fun _ => [(6, .int .i64 (n0 : Int)), (5, .pointer (some ⟨bs, 0, none⟩)), (4, .int .i64 (i : Int)), (3, .slice A1 qs.length c1), (0, .slice (some ad) ps.length c)]) (fun _ => [.inl ⟨bs, 43, 5, idx 0 [.int .i64 s.up, .int .i64 s.fn, .int .i64 s.kind, .int .i64 s.at', .slice A2 s.names.length c2]⟩, .inr ⟨.slice A1 qs.length c1, 43, 5, qs.length, qs.flatMap eE⟩]) ?_ ?_
  ·by_cases h0 : s.fn = 0
   ·rw [if_pos h0] at t
    subst t
    try repeat' (refine KZ ?_)
    all_goals exact J1 () trivial
   ·rw [if_neg h0] at t
    subst t
    try repeat' (refine KZ ?_)
    all_goals exact J1 () trivial
  rintro ⟨⟩ -
  try repeat' (refine KZ ?_)
  refine bW (ι := Nat × Nat) (fun q => q.1 ≤ i ∧ q.2 = mF s.fn ((scs ps).take q.1)) (fun q => i - q.1) (fun _ => μ1) (fun q => [(7, .int .i64 (q.1 : Int)), (6, .int .i64 ((n0 + q.2 : Nat) : Int)), (5, .pointer (some ⟨bs, 0, none⟩)), (4, .int .i64 (i : Int)), (3, .slice A1 qs.length c1), (0, .slice (some ad) ps.length c)]) (fun _ => [.inl ⟨bs, 43, 5, idx 0 [.int .i64 s.up, .int .i64 s.fn, .int .i64 s.kind, .int .i64 s.at', .slice A2 s.names.length c2]⟩, .inr ⟨.slice A1 qs.length c1, 43, 5, qs.length, qs.flatMap eE⟩]) (0, 0) ⟨aI _, (aBy _ _).symm⟩ (fun a w hs => J5 hs) ?_
  rintro ⟨k, n⟩ ⟨hk, hn⟩
  dsimp only at hk hn ⊢
  have hb := CG s.fn (scs ps) ar k (by omega)
  rw [← hn] at hb
  by_cases bf : k < i
  ·obtain ⟨adz, z, e0, hz, ab⟩ := a7.get (show k < ps.length by omega)
   cases e0
   have g := MH (fn := s.fn) (jB hz)
   rw [← hn] at g
   obtain ⟨zs, zv⟩ := z
   have ah := (u _ (aB hz)).mono hle
   dsimp only at g ah
   have an := fun w μc hw (hle : MLe μ1 μc) => RB w μc hw zs zv (ah.mono hle)
   obtain ⟨A3, c3, e3, bh, bd⟩ := ah
   subst e3
   have bg := CI zs.names
   try repeat' (refine KZ ?_)
   by_cases hf : zs.fn = s.fn
   ·rw [if_pos hf] at g
    refine aT 8 _ (by kernel_rfl) rfl (aC (aC aQ)) ?_
    all_goals (refine DD 0 ?_; refine DD 1 ?_; refine D2 2 rfl (by exact U1 k) ?_; refine DD 3 ?_; refine D2 4 rfl (by exact U4 ab) ?_; refine D1 5 ?_; refine DD 6 ?_; refine D1 7 ?_; refine D8 ?_)
    all_goals try repeat' (refine KZ ?_)
    all_goals refine aT 15 _ (by kernel_rfl) rfl (aC (aC aQ)) ?_
              all_goals (refine DD 0 ?_; refine DD 1 ?_; refine DD 2 ?_; refine D2 3 rfl (by exact U1 k) ?_; refine DD 4 ?_; refine D2 5 rfl (by exact U4 ab) ?_; refine D1 6 ?_; refine DD 7 ?_; refine DD 8 ?_; refine DD 9 ?_; refine D2 10 rfl (by exact U1 k) ?_; refine D2 11 rfl (by exact U4 ab) ?_; refine D3 12 ?_; refine D5 ?_; refine K2 58 an ?_; refine D9 ?_; refine DD 13 ?_; refine DD 14 ?_; refine D8 ?_)
    all_goals try repeat' (refine KZ ?_)
    all_goals rw [show ((n0 + n : Nat) : Int) + (zs.names.length : Int) - (gN zs.names : Int) = ((n0 + (n + (zs.names.length - gN zs.names)) : Nat) : Int) by omega]
    all_goals exact J2 (k + 1, n + (zs.names.length - gN zs.names)) ⟨by dsimp only; omega, g.symm⟩ (by dsimp only; omega)
   ·rw [if_neg hf] at g
    refine aT 8 _ (by kernel_rfl) rfl (aC (aC aQ)) ?_
    all_goals (refine DD 0 ?_; refine DD 1 ?_; refine D2 2 rfl (by exact U1 k) ?_; refine DD 3 ?_; refine D2 4 rfl (by exact U4 ab) ?_; refine D1 5 ?_; refine DD 6 ?_; refine D1 7 ?_; refine D8 ?_)
    all_goals try repeat' (refine KZ ?_)
    all_goals exact J2 (k + 1, n) ⟨by dsimp only; omega, g.symm⟩ (by dsimp only; omega)
  have aj : k = i := by omega
  subst aj
  rw [← hn] at o
  try repeat' (refine KZ ?_)
  refine nH 40 4 ?_
  refine bW (ι := Nat × Nat × List Bd × Value) (fun q => q.1 ≤ s.names.length ∧ q.2.1 = gN (s.names.take q.1) ∧ q.2.2.1 = hI 0 (n0 + n) (s.names.take q.1) ∧ q.2.2.1.length = q.1) (fun q => s.names.length - q.1) (fun _ => μ1) (fun q => [(10, .int .i64 (q.1 : Int)), (9, .int .i64 (q.2.1 : Int)), (8, q.2.2.2), (6, .int .i64 ((n0 + n + (q.1 - q.2.1) : Nat) : Int)), (5, .pointer (some ⟨bs, 0, none⟩)), (4, .int .i64 (k : Int)), (3, .slice A1 qs.length c1), (0, .slice (some ad) ps.length c)]) (fun q => .inr ⟨q.2.2.2, 40, 4, q.2.2.1.length, q.2.2.1.flatMap jF⟩ :: [.inl ⟨bs, 43, 5, idx 0 [.int .i64 s.up, .int .i64 s.fn, .int .i64 s.kind, .int .i64 s.at', .slice A2 s.names.length c2]⟩, .inr ⟨.slice A1 qs.length c1, 43, 5, qs.length, qs.flatMap eE⟩]) (0, 0, [], .slice none 0 0) ⟨aI _, (vR _).symm, (IJ _ _ _).symm, rfl⟩ (fun a w hs => J5 hs) ?_
  rintro ⟨j, h, bl, vb⟩ ⟨hj, hh, d, az⟩
  dsimp only at hj hh d az ⊢
  have ax := vS s.names j
  rw [← hh] at ax
  refine fW 0 rfl ?_
  rintro A4 c4 rfl a8
  by_cases aw : j < s.names.length
  ·obtain ⟨adx, x, rfl, hx, au⟩ := hB.get aw
   have f := IK hx (n0 + n)
   have l := vT hx
   rw [← hh, ← d] at f
   rw [← hh] at l
   obtain ⟨nm, kd, hd, sl⟩ := x
   have af : eM μ1 (adx.add (j * 4)) [.string nm, .int .i64 kd, .bool hd, .int .i64 sl] := au
   dsimp only at f l
   cases hd
   ·rw [if_neg (by simp)] at l
    rw [if_neg (by simp)] at f
    try repeat' (first | refine KO ?_ | (((with_reducible apply oZ); (iterate 3 exact rfl); (repeat first | with_reducible exact fE | with_reducible apply fV); (iterate 6 exact rfl); (((with_reducible apply jS); exact rfl; (repeat with_reducible exact fO); exact rfl)); (exact rfl); ((exact gB (by (repeat first | with_reducible exact fS | ((with_reducible apply eY); (exact rfl)))))); omega; omega; intro v)) | (refine KV (b := by first | exact U1 j | exact U4 af) (c := ?_)) | refine KZ ?_ | refine NB fun b => ?_)
    all_goals rw [show ((n0 + n + (j - h) : Nat) : Int) + 1 = ((n0 + n + (j + 1 - h) : Nat) : Int) by omega]
    all_goals refine gC (n' := (bl ++ [(⟨nm, kd, false, ((n0 + n + (j - h) : Nat) : Int)⟩ : Bd)]).length) (xs' := (bl ++ [(⟨nm, kd, false, ((n0 + n + (j - h) : Nat) : Int)⟩ : Bd)]).flatMap jF) 2 rfl (by simp) (by simp) ?_
    all_goals exact J2 (j + 1, h, bl ++ [(⟨nm, kd, false, ((n0 + n + (j - h) : Nat) : Int)⟩ : Bd)], v) ⟨by dsimp only; omega, l.symm, f.symm, by simp; omega⟩ (by dsimp only; omega)
   ·rw [if_pos rfl] at l
    rw [if_pos rfl] at f
    try repeat' (first | refine KO ?_ | (((with_reducible apply oZ); (iterate 3 exact rfl); (repeat first | with_reducible exact fE | with_reducible apply fV); (iterate 6 exact rfl); (((with_reducible apply jS); exact rfl; (repeat with_reducible exact fO); exact rfl)); (exact rfl); ((exact gB (by (repeat first | with_reducible exact fS | ((with_reducible apply eY); (exact rfl)))))); omega; omega; intro v)) | (refine KV (b := by first | exact U1 j | exact U4 af) (c := ?_)) | refine KZ ?_ | refine NB fun b => ?_)
    all_goals rw [show n0 + n + (j - h) = n0 + n + (j + 1 - (h + 1)) by omega]
    all_goals refine gC (n' := (bl ++ [(⟨nm, kd, true, (h : Int)⟩ : Bd)]).length) (xs' := (bl ++ [(⟨nm, kd, true, (h : Int)⟩ : Bd)]).flatMap jF) 2 rfl (by simp) (by simp) ?_
    all_goals exact J2 (j + 1, h + 1, bl ++ [(⟨nm, kd, true, (h : Int)⟩ : Bd)], v) ⟨by dsimp only; omega, l.symm, f.symm, by simp; omega⟩ (by dsimp only; omega)
  ·obtain rfl : j = s.names.length := by omega
   rw [aG (aD _)] at d
   refine oY rfl ?_
   intro μ2 ag ae
   have a6 := eR (enc := jF) ae rfl (by simp) rfl
   have ay := Bk.cap ae
   try repeat' (first | refine KZ ?_ | (((with_reducible apply oZ); (iterate 3 exact rfl); (repeat first | with_reducible exact fE | with_reducible apply fV); (iterate 6 exact rfl); (((with_reducible apply jS); exact rfl; (repeat with_reducible exact fO); exact rfl)); exact rfl; exact gB (by (repeat first | with_reducible exact fS | ((with_reducible apply eY); exact rfl))); omega; omega; intro v)) | refine NB fun b => ?_)
   all_goals refine gC (n' := (qs ++ [((⟨s.up, s.fn, s.kind, s.at', bl⟩ : Sc), Value.slice A4 bl.length c4)]).length) (xs' := (qs ++ [((⟨s.up, s.fn, s.kind, s.at', bl⟩ : Sc), Value.slice A4 bl.length c4)]).flatMap eE) 2 rfl (by simp) (by simp) ?_
   all_goals refine J2 (k + 1, qs ++ [((⟨s.up, s.fn, s.kind, s.at', bl⟩ : Sc), Value.slice A4 bl.length c4)], μ2, v) ⟨by dsimp only; omega, hle.trans ag, ?_, by simp; omega, fun q r => ?_⟩ (by dsimp only; omega)
   ·dsimp only
    rw [o, ← d]
    simp [scs]
   ·rcases List.mem_append.1 r with r | r
    ·exact (hq q r).mono ag
    ·cases aR.1 r
     exact ⟨A4, c4, rfl, a6, by dsimp only; omega⟩
 ·obtain rfl : i = ps.length := by omega
  rw [aG (by omega)] at aa
  try repeat' (refine KZ ?_)
  exact qI rfl (by exact cN rfl) (fun μ' ai hL => ⟨A1, c1, qs, rfl, ⟨eR (enc := eE) (hL _ (aF ..)) rfl (by simp) rfl, by omega, fun q ao => (hq q ao).mono ai⟩, aa⟩)
end
section
open Go.RowKit Go.Vcg Go.MapKept
def mkM : List (Int × Nat) → Nat → List MapEntry
 | [], _ => []
 | (f, n) :: r, j => MapEntry.mk (.int .i64 f) (.int .i64 (n : Int)) j :: mkM r (j + 1)
def sB (f : Int) : List (Int × Nat) → Nat → Option (Nat × Nat)
 | [], _ => none
 | (g, n) :: r, i => if f = g then some (i, n) else sB f r (i + 1)
def getM (f : Int) (M : List (Int × Nat)) : Nat := match sB f M 0 with
 | some (_, n) => n
 | none => 0
def vK (f : Int) (n : Nat) : List (Int × Nat) → List (Int × Nat)
 | [] => [(f, n)]
 | (g, k) :: r => if f = g then (f, n) :: r else (g, k) :: vK f n r
theorem CR (f : Int) : ∀ (M : List (Int × Nat)) (j i : Nat), Instr.findNow (.int .i64) (.int .i64 f) (mkM M j) i = some ((sB f M i).map fun p => (p.1, .int .i64 (p.2 : Int)))
 | [], j, i => by simp [mkM, Instr.findNow, sB]
 | (g, n) :: r, j, i => by
   have ih := CR f r (j + 1) (i + 1)
   unfold mkM Instr.findNow sB
   by_cases h : f = g
   ·subst h
    simp [Instr.sameNow]
   ·have hb : (f == g) = false := by simpa using h
    simp [Instr.sameNow, hb, h, ih]
theorem ZQ : ∀ (M : List (Int × Nat)) (f : Int) (n j : Nat), mkM (M ++ [(f, n)]) j = mkM M j ++ [MapEntry.mk (.int .i64 f) (.int .i64 (n : Int)) (j + M.length)]
 | [], f, n, j => by simp [mkM]
 | (g, k) :: r, f, n, j => by
   have := ZQ r f n (j + 1)
   simp only [aL, mkM, this, bF]
   rw [show j + 1 + r.length = j + (r.length + 1) by omega]
theorem ZW {f : Int} : ∀ {M : List (Int × Nat)} {i p n : Nat}, sB f M i = some (p, n) → i ≤ p
 | [], _, _, _, h => by cases h
 | (g, k) :: r, i, p, n, h => by
   unfold sB at h
   split at h
   ·cases h; exact aD _
   ·have := ZW h; omega
theorem ZP {f : Int} {n m : Nat} : ∀ {M : List (Int × Nat)} {j i p : Nat}, sB f M i = some (p, m) → (mkM M j).modify (p - i) (fun e => { e with key := .int .i64 f, val := .int .i64 (n : Int) }) = mkM (vK f n M) j ∧ ((mkM M j)[p - i]?).map (·.key) = some (.int .i64 f)
 | [], _, _, _, h => by cases h
 | (g, k) :: r, j, i, p, h => by
   unfold sB at h
   by_cases hg : f = g
   ·rw [if_pos hg] at h
    cases h
    subst hg
    simp [mkM, vK]
   ·rw [if_neg hg] at h
    have h1 := ZW h
    obtain ⟨e1, e2⟩ := ZP (n := n) (j := j + 1) h
    obtain ⟨q, b⟩ : ∃ q, p - i = q + 1 := ⟨p - i - 1, by omega⟩
    have a : p - (i + 1) = q := by omega
    rw [a] at e1 e2
    rw [b]
    simp only [mkM, vK, if_neg hg, List.modify_succ_cons, e1, bG, e2, and_self]
theorem LX {f : Int} {n : Nat} : ∀ {M : List (Int × Nat)} {i : Nat}, sB f M i = none → vK f n M = M ++ [(f, n)]
 | [], _, _ => rfl
 | (g, k) :: r, i, h => by
   unfold sB at h
   by_cases hg : f = g
   ·rw [if_pos hg] at h; cases h
   ·rw [if_neg hg] at h
    unfold vK
    rw [if_neg hg, LX h]
    rfl
theorem TI (f g : Int) (n : Nat) : ∀ (M : List (Int × Nat)) (i : Nat), (sB g (vK f n M) i).map (·.2) = if g = f then some n else (sB g M i).map (·.2)
 | [], i => by
   unfold vK sB
   by_cases h : g = f
   ·simp [h]
   ·simp [h, sB]
 | (a, k) :: r, i => by
   have ih := TI f g n r (i + 1)
   unfold vK
   by_cases h : f = a
   ·rw [if_pos h]
    unfold sB
    by_cases hg : g = f
    ·rw [if_pos hg, if_pos hg]; rfl
    ·rw [if_neg hg, if_neg hg, if_neg (fun e => hg (e.trans h.symm))]
   ·rw [if_neg h]
    unfold sB
    by_cases hg : g = a
    ·rw [if_pos hg, if_pos hg, if_neg (fun e => h (e.symm.trans hg))]
    ·rw [if_neg hg, if_neg hg, ih]
theorem OZ (f : Int) (M : List (Int × Nat)) : getM f M = ((sB f M 0).map (·.2)).getD 0 := by
 unfold getM
 cases sB f M 0 with
 | none => rfl
 | some p => rfl
theorem aFq (f g : Int) (n : Nat) (M : List (Int × Nat)) : getM g (vK f n M) = if g = f then n else getM g M := by
 rw [OZ, OZ, TI]
 split <;> rfl
end
end Go.Proofs.YtlllalmkkaolfaaGreatDoor
namespace Go.Vcg
open Go.RowKit
section
variable {P : Program} {X : Ctx} {ops : Array Oper} {Q : Exit → Act → World → Prop} {rest : List Oper} {μ : Mem} {l : bP} {L : List Bk}
variable {ty : TypeId} {pos : String} {af : Array Edge} {gd : Option (Nat × Bool)} {ds : Option Nat}
theorem kW {x q : Operand} {t : TypeId} {o1 o2 n g cap m e s : Nat} {xs : List Value} {v : Value} (i : Nat) (hw : gQ ops l ⟨none, .store t q x, ty, pos, af, gd⟩ = some true) (b : iO P t = some n)
 (hi : gT L i = some (.inr ⟨.slice (some ⟨g, 0, none⟩) m cap, e, s, m, xs⟩)) (d : ev l q = some (.pointer (some ((Addr.add ⟨g, 0, none⟩ o1).add o2)))) (c : ev l x = some v) (hlen : v.cells.toList.length = n) (hone : v.cells.toList.all (·.oneCell') = true)
 (a : o1 + o2 + n ≤ xs.length)
 (h : G P X ops Q rest μ l (fD L i (.inr ⟨.slice (some ⟨g, 0, none⟩) m cap, e, s, m, xs.take (o1 + o2) ++ v.cells.toList ++ xs.drop (o1 + o2 + n)⟩))) : G P X ops Q (⟨none, .store t q x, ty, pos, af, gd⟩ :: rest) μ l L :=
 nP i hw b hi (d.trans (by rw [mX])) c hlen hone a h
theorem eQ {x : Operand} {v : Value} {t : TypeId} {g n cap o1 o2 : Nat} {e s : TypeId} {xs : List Value} (i : Nat) (a : oI P t = some false)
 (hi : gT L i = some (.inr ⟨.slice (some ⟨g, 0, none⟩) n cap, e, s, n, xs⟩)) (b : ev l x = some (.pointer (some ((Addr.add ⟨g, 0, none⟩ o1).add o2)))) (hv : xs[o1 + o2]? = some v) : Val P μ l L ⟨ds, .load t x, ty, pos, af, gd⟩ v :=
 oW i a hi (b.trans (by rw [mX])) hv
end
theorem eW : ∀ L : List Bk, Sel L L
 | [] => .nil _
 | x :: r => eV (jQ.refl x) (eW r)
theorem AM : ∀ a b : List Bk, splitB a.length (a ++ b) = some (a, b)
 | [], b => rfl
 | x :: a, b => by
   show (match splitB a.length (a ++ b) with | some (p, q) => some (x :: p, q) | none => none) = _
   rw [AM a b]
end Go.Vcg
namespace Go.Proofs.YtlllalmkkaolfaaGreatDoor
open Go.RowKit Go.Vcg Go.MapKept
theorem kR {α : Type} {enc : α → List Value} {s : Nat} (he : ∀ x, (enc x).length = s) : ∀ (xs : List α) (i k : Nat) (x : α), xs[i]? = some x → k < s → (xs.flatMap enc)[i * s + k]? = (enc x)[k]?
 | [], i, k, x, h, _ => by simp at h
 | y :: r, 0, k, x, h, hk => by
   cases h
   rw [bU, aU (by rw [he]; omega)]
   congr 1
   omega
 | y :: r, i + 1, k, x, h, hk => by
   rw [bU, aX (by rw [he, eB]; omega), he, ← kR he r i k x h hk]
   congr 1
   rw [eB]
   omega
theorem nT {α : Type} {enc : α → List Value} {s : Nat} (he : ∀ x, (enc x).length = s) {vs : List Value} {k n : Nat} (hk : k + n ≤ s) {y : α} : ∀ (xs : List α) (i : Nat) (x : α), xs[i]? = some x → enc y = (enc x).take k ++ vs ++ (enc x).drop (k + n) →
 (xs.flatMap enc).take (i * s + k) ++ vs ++ (xs.flatMap enc).drop (i * s + k + n) = (xs.set i y).flatMap enc
 | [], i, x, h, _ => by simp at h
 | z :: r, 0, x, h, a => by
   cases h
   rw [iL, bU, bU, jT, bB, iK (by rw [he]; omega), List.drop_append_of_le_length (by rw [he]; omega), a]
   simp
 | z :: r, i + 1, x, h, a => by
   have ih := nT he (vs := vs) hk r i x h a
   rw [jY, bU, bU, ← ih, eB, nJ, show i * s + s + k = (enc z).length + (i * s + k) by rw [he]; omega, List.take_length_add_append, show (enc z).length + (i * s + k) + n = (enc z).length + (i * s + k + n) by omega, List.drop_length_add_append]
   simp
theorem JE : ∀ l : List Bd, (l.flatMap jF).length = l.length * 4
 | [] => rfl
 | b :: r => by
   have := JE r
   simp only [bU, aK, bF, bJ, this]
   omega
abbrev Fm := Value × List Bd
abbrev CS (f : Fm) : Bk := .inr ⟨f.1, 40, 4, f.2.length, f.2.flatMap jF⟩
def fZ (fs : List Fm) : List Bk := fs.map CS
theorem RN {f : Int} {n : Nat} : ∀ {M : List (Int × Nat)} {i : Nat} {p : Nat × Nat}, sB f M i = some p → (vK f n M).length = M.length
 | [], _, _, h => by cases h
 | (g, k) :: r, i, p, h => by
   unfold sB at h
   unfold vK
   by_cases hg : f = g
   ·rw [if_pos hg]; rfl
   ·rw [if_neg hg] at h ⊢
    simp only [bF, RN h]
theorem xV {fs : List Fm} {i : Nat} {f : Fm} (h : fs[i]? = some f) : (fZ fs)[i]? = some (CS f) := by unfold fZ; rw [aN, h]; rfl
theorem JM (fs : List Fm) (i : Nat) (f : Fm) : fZ (fs.set i f) = (fZ fs).set i (CS f) := by unfold fZ; rw [iU]
theorem JO (fs : List Fm) : (fZ fs).length = fs.length := aH ..
def UT (ps : List Sc) (fs0 : List Fm) (i : Nat) (fs : List Fm) : Prop := fs.length = fs0.length ∧ ∀ (j : Nat) (f0 : Fm) (s : Sc), fs0[j]? = some f0 → ps[j]? = some s → fs[j]? = some (f0.1, if j < i then (nL (ps.take j) s).names else f0.2)
theorem aCy {ps : List Sc} {fs0 fs : List Fm} {i : Nat} {f0 : Fm} {s : Sc} (h : UT ps fs0 i fs) (h0 : fs0[i]? = some f0) (hs : ps[i]? = some s) : UT ps fs0 (i + 1) (fs.set i (f0.1, (nL (ps.take i) s).names)) := by
 refine ⟨by rw [fH]; exact h.1, fun j f t hf ht => ?_⟩
 have hlt : i < fs.length := by rw [h.1]; exact (List.getElem?_eq_some_iff.1 h0).1
 by_cases a : i = j
 ·subst a
  rw [h0] at hf
  rw [hs] at ht
  cases hf
  cases ht
  rw [iN hlt, if_pos (by omega)]
 ·rw [List.getElem?_set_ne a, h.2 j f t hf ht]
  congr 2
  by_cases h2 : j < i
  ·rw [if_pos h2, if_pos (by omega)]
  ·rw [if_neg h2, if_neg (by omega)]
theorem aIe {l : List Bd} {k : Nat} {b : Bd} (h : l[k]? = some b) (c : Nat) : (hI 0 c (l.take k) ++ l.drop k).set k { b with slot := if b.held = true then (gN (l.take k) : Int) else ((c + (k - gN (l.take k)) : Nat) : Int) } = hI 0 c (l.take (k + 1)) ++ l.drop (k + 1) := by
 obtain ⟨h1, h2⟩ := List.getElem?_eq_some_iff.1 h
 have hlen : (hI 0 c (l.take k)).length = k := by rw [mN, cE]; omega
 rw [IK h, List.set_append_right _ _ (by omega), hlen, dN, dT h1, iL, bO]
 rfl
theorem aIg {l : List Bd} {k : Nat} {b : Bd} (h : l[k]? = some b) (c : Nat) : (hI 0 c (l.take k) ++ l.drop k)[k]? = some b := by
 have hlt := (List.getElem?_eq_some_iff.1 h).1
 have hlen : (hI 0 c (l.take k)).length = k := by rw [mN, cE]; omega
 rw [aX (by omega), hlen, dN, gM, cB]
 exact h
theorem aIf (l : List Bd) (k c : Nat) : (hI 0 c (l.take k) ++ l.drop k).length = l.length := by
 rw [aK, mN, ← aK, dD]
theorem aE0 {P : Program} {et : TypeId} (a : nE P et = some (.int .i64 0)) (f : Int) (M : List (Int × Nat)) : ∃ ok, pH P et (Instr.findNow (.int .i64) (.int .i64 f) (mkM M 0) 0) = some (.int .i64 ((getM f M : Nat) : Int), ok) := by
 rw [CR]
 unfold getM
 cases sB f M 0 with
 | none => exact ⟨false, by simp [pH, a]⟩
 | some p => exact ⟨true, rfl⟩
def base (ps : List Sc) (i : Nat) (f : Int) : Nat := (if f = 0 then 1 else 0) + mF f (ps.take i)
attribute [local irreducible] fZ base gN mF fF findF hI kQ nL G GC GQ GA eN Calls IntKind.wrap Int.decLt Int.decLe
theorem EV (ps : List Sc) (cs : List (Sc × Value)) (fs : List Fm) (g cap : Nat) (w : World) (μ : Mem) (hμ : MOk μ w) (av : scs cs = ps) (hlen : fs.length = cs.length) (hl : ps.length ≤ 9000) (ar : ∀ s ∈ ps, s.names.length ≤ 10000000)
 (an : ∀ (j : Nat) (c : Sc × Value) (f : Fm), cs[j]? = some c → fs[j]? = some f → c.2 = f.1 ∧ f.2 = c.1.names)
 (hO : Go.Vcg.Own μ (.inr ⟨.slice (some ⟨g, 0, none⟩) cs.length cap, 43, 5, cs.length, cs.flatMap eE⟩ :: fZ fs) w) :
 Calls Tryz.prog 36 #[.slice (some ⟨g, 0, none⟩) cs.length cap] w fun e w' => ∃ (v : Value) (μ' : Mem) (i : List Fm), e = .returned v ∧ lT (kI (.inr ⟨.slice (some ⟨g, 0, none⟩) cs.length cap, 43, 5, cs.length, cs.flatMap eE⟩ :: fZ fs)) w w' μ (.inr ⟨.slice (some ⟨g, 0, none⟩) cs.length cap, 43, 5, cs.length, cs.flatMap eE⟩ :: fZ i) μ' ∧ (v = .slice (some ⟨g, 0, none⟩) cs.length cap ∧ UT ps fs ps.length i) := by
 have aw := dJ hO.diff
 have bc : ps.length = cs.length := by rw [← av]; exact aH ..
 have au : ∀ x : Sc × Value, (eE x).length = 5 := fun _ => rfl
 have af : ∀ x : Bd, (jF x).length = 4 := fun _ => rfl
 refine cC (args := [.slice (some ⟨g, 0, none⟩) cs.length cap]) Tryz.func36 rfl Tryz.ntmps36 (by simp) hμ hO ?_
 try repeat' (first | (((with_reducible apply CN); exact .inl rfl; (iterate 6 exact rfl); exact rfl; (repeat with_reducible exact sO); exact rfl)) | refine KZ ?_ | ((with_reducible apply PF); exact rfl; exact rfl; intro b))
 obtain ⟨bm, ay⟩ : ∃ y, y = b := ⟨_, rfl⟩
 rw [← ay]
 clear ay
 refine bW (ι := Nat × List (Int × Nat) × List Fm) (fun q => q.1 ≤ cs.length ∧ (∀ f, getM f q.2.1 = base ps q.1 f) ∧ UT ps fs q.1 q.2.2) (fun q => cs.length - q.1) (fun _ => μ) (fun q => [(12, .int .i64 (q.1 : Int)), (11, .int .i64 (cs.length : Int)), (3, .map (some bm)), (0, .slice (some ⟨g, 0, none⟩) cs.length cap)]) (fun q => .mp ⟨bm, mkM q.2.1 0, (q.2.1 : List (Int × Nat)).length⟩ :: .inr ⟨.slice (some ⟨g, 0, none⟩) cs.length cap, 43, 5, cs.length, cs.flatMap eE⟩ :: fZ q.2.2) (0, [(0, 1)], fs) ⟨aI _, fun f => by
  rw [base, iY, mF, OZ, sB]
  by_cases h : f = 0
  ·rw [if_pos h, if_pos h]; rfl
  ·rw [if_neg h, if_neg h]; rfl, rfl, fun j f0 s h1 h2 => by rw [if_neg (by omega)]; exact h1⟩ (fun a w hs => hs.sel PU (eV (jQ.refl _) (eV (jQ.refl _) (eW _)))) ?_
 rintro ⟨i, M, fs2⟩ ⟨hi, hM, hF⟩
 dsimp only at hi hM hF ⊢
 by_cases hlt : i < cs.length
 ·obtain ⟨cc, hc⟩ : ∃ cc, cs[i]? = some cc := ⟨_, aA hlt⟩
  obtain ⟨f0, al⟩ : ∃ f0, fs[i]? = some f0 := ⟨_, aA (by omega)⟩
  have aa : ps[i]? = some cc.1 := by rw [← av]; exact jB hc
  obtain ⟨ai, ao⟩ := an i cc f0 hc al
  have ae := hF.2 i f0 cc.1 al aa
  rw [if_neg (by omega), ao] at ae
  obtain ⟨s, v⟩ := cc
  dsimp only at ai ao aa ae
  rw [← ai] at ae
  have bb := ar s (aB aa)
  refine pP (kF (F := [_, _]) (xV ae)) ?_
  obtain ⟨R, hR⟩ : ∃ R, (fZ fs2).eraseIdx i = R := ⟨_, rfl⟩
  rw [hR]
  dsimp only [aL, aP, CS]
  refine fW 0 rfl ?_
  rintro A4 c4 rfl aq
  have ag : (cs.flatMap eE)[i * 5 + 4]? = some (.slice A4 s.names.length c4) := by rw [kR au cs i 4 _ hc (by omega)]; rfl
  have ax : (cs.flatMap eE)[i * 5 + 1]? = some (.int .i64 s.fn) := by rw [kR au cs i 1 _ hc (by omega)]; rfl
  try repeat' (first | refine KO ?_ | (refine KV (b := by first | exact U1 i | ((with_reducible apply eQ 2); (iterate 3 exact rfl); exact ag)) (c := ?_)) | refine KZ ?_)
  have bd : base ps i s.fn ≤ 90000000001 := by
   have := CG s.fn ps ar i hl
   unfold base
   split <;> omega
  refine bW (ι := Nat × Nat × List (Int × Nat) × List Bd) (fun q => q.1 ≤ s.names.length ∧ q.2.1 = gN (s.names.take q.1) ∧ (∀ f, getM f q.2.2.1 = base ps i f + if f = s.fn then q.1 - q.2.1 else 0) ∧ q.2.2.2 = hI 0 (base ps i s.fn) (s.names.take q.1) ++ s.names.drop q.1) (fun q => s.names.length - q.1) (fun _ => μ) (fun q => [(21, .int .i64 (q.1 : Int)), (20, .int .i64 (s.names.length : Int)), (5, .int .i64 (q.2.1 : Int)), (4, .int .i64 (i : Int)), (12, .int .i64 (i : Int)), (11, .int .i64 (cs.length : Int)), (3, .map (some bm)), (0, .slice (some ⟨g, 0, none⟩) cs.length cap)]) (fun q => .inr ⟨.slice A4 s.names.length c4, 40, 4, s.names.length, q.2.2.2.flatMap jF⟩ :: .mp ⟨bm, mkM q.2.2.1 0, (q.2.2.1 : List (Int × Nat)).length⟩ :: .inr ⟨.slice (some ⟨g, 0, none⟩) cs.length cap, 43, 5, cs.length, cs.flatMap eE⟩ :: R) (0, 0, M, s.names) ⟨aI _, (vR _).symm, fun f => by rw [hM f]; split <;> simp, by rw [IJ, nY, aP]⟩ (fun a w hs => hs.sel PU (eW _)) ?_
  rintro ⟨k, h, M2, bl⟩ ⟨hk, hh, ad, t⟩
  dsimp only at hk hh ad t ⊢
  have a8 := vS s.names k
  rw [← hh] at a8
  have ah : bl.length = s.names.length := by rw [t]; exact aIf _ _ _
  by_cases a1 : k < s.names.length
  ·rcases aq.form with ⟨-, h0, -⟩ | ⟨g4, rfl⟩
   ·exfalso; omega
   obtain ⟨x, hx⟩ : ∃ x, s.names[k]? = some x := ⟨_, aA a1⟩
   have d := aIe hx (base ps i s.fn)
   have z := aIg hx (base ps i s.fn)
   have r := vT hx
   rw [← t, ← hh] at d
   rw [← t] at z
   rw [← hh] at r
   obtain ⟨nm, kd, hd, sl⟩ := x
   dsimp only at d r
   have o : (bl.flatMap jF)[k * 4 + 2]? = some (.bool hd) := by rw [kR af bl k 2 _ z (by omega)]; rfl
   have ak := JE bl
   cases hd
   ·rw [if_neg (by simp)] at d r
    obtain ⟨ok, l⟩ := aE0 (P := Tryz.prog) (et := 3) (by kernel_rfl) s.fn M2
    have aj := ad s.fn
    rw [if_pos rfl] at aj
    rw [aj] at l
    have hJ : ∀ f, getM f (vK s.fn (base ps i s.fn + (k - h) + 1) M2) = base ps i f + if f = s.fn then (k + 1) - h else 0 := fun f => by
     rw [aFq]
     by_cases hf : f = s.fn
     ·rw [if_pos hf, if_pos hf, hf]; omega
     ·rw [if_neg hf, if_neg hf, ad f, if_neg hf]
    cases u : sB s.fn M2 0 with
    | some pm =>
      obtain ⟨p, m⟩ := pm
      have hm : m = base ps i s.fn + (k - h) := by rw [← aj]; unfold getM; rw [u]
      have ab := CR s.fn M2 0 0
      rw [u] at ab
      obtain ⟨e1, e2⟩ := ZP (n := base ps i s.fn + (k - h) + 1) (j := 0) u
      rw [dI] at e1 e2
      try repeat' (first | (((with_reducible apply JC); (exact .inr rfl); (iterate 6 exact rfl); (exact rfl); (repeat first | with_reducible exact sO | with_reducible apply tZ); exact ab; exact e2)) | refine KO ?_ | ((with_reducible apply kW 0); (iterate 7 exact rfl); (rw [ak, ah]; omega); (dsimp only [fD])) | (refine KV (b := by first | exact U1 k | ((with_reducible apply eQ 2); (iterate 3 exact rfl); exact ag) | ((with_reducible apply eQ 0); (iterate 3 exact rfl); exact o) | ((with_reducible apply eQ 2); (iterate 3 exact rfl); exact ax) | ((with_reducible apply nM); (iterate 4 exact rfl); (exact rfl); (repeat first | with_reducible exact qN | with_reducible apply qM); exact l)) (c := ?_)) | refine KZ ?_)
      all_goals refine gC (n' := s.names.length) (xs' := (bl.set k ⟨nm, kd, false, ((base ps i s.fn + (k - h) : Nat) : Int)⟩).flatMap jF) 0 rfl rfl (nT af (vs := [.int .i64 ((base ps i s.fn + (k - h) : Nat) : Int)]) (k := 3) (n := 1) (by omega) bl k _ z rfl) ?_
      all_goals refine GP (es' := mkM (vK s.fn (base ps i s.fn + (k - h) + 1) M2) 0) (ck' := (vK s.fn (base ps i s.fn + (k - h) + 1) M2).length) 1 rfl e1 (RN u).symm ?_
      all_goals exact cP (k + 1, h, vK s.fn (base ps i s.fn + (k - h) + 1) M2, bl.set k ⟨nm, kd, false, ((base ps i s.fn + (k - h) : Nat) : Int)⟩) ⟨by dsimp only; omega, r.symm, hJ, d⟩ (by dsimp only; omega) rfl PU (eW _)
    | none =>
      have ab := CR s.fn M2 0 0
      rw [u] at ab
      have ap := LX (n := base ps i s.fn + (k - h) + 1) u
      try repeat' (first | (((with_reducible apply CN); (exact .inr rfl); (iterate 6 exact rfl); (exact rfl); (repeat first | with_reducible exact sO | with_reducible apply tZ); exact ab)) | refine KO ?_ | ((with_reducible apply kW 0); (iterate 7 exact rfl); (rw [ak, ah]; omega); (dsimp only [fD])) | (refine KV (b := by first | exact U1 k | ((with_reducible apply eQ 2); (iterate 3 exact rfl); exact ag) | ((with_reducible apply eQ 0); (iterate 3 exact rfl); exact o) | ((with_reducible apply eQ 2); (iterate 3 exact rfl); exact ax) | ((with_reducible apply nM); (iterate 4 exact rfl); (exact rfl); (repeat first | with_reducible exact qN | with_reducible apply qM); exact l)) (c := ?_)) | refine KZ ?_)
      all_goals refine gC (n' := s.names.length) (xs' := (bl.set k ⟨nm, kd, false, ((base ps i s.fn + (k - h) : Nat) : Int)⟩).flatMap jF) 0 rfl rfl (nT af (vs := [.int .i64 ((base ps i s.fn + (k - h) : Nat) : Int)]) (k := 3) (n := 1) (by omega) bl k _ z rfl) ?_
      all_goals refine GP (es' := mkM (vK s.fn (base ps i s.fn + (k - h) + 1) M2) 0) (ck' := (vK s.fn (base ps i s.fn + (k - h) + 1) M2).length) 1 rfl (by rw [ap, ZQ, bB]; rfl) (by rw [ap]; simp) ?_
      all_goals exact cP (k + 1, h, vK s.fn (base ps i s.fn + (k - h) + 1) M2, bl.set k ⟨nm, kd, false, ((base ps i s.fn + (k - h) : Nat) : Int)⟩) ⟨by dsimp only; omega, r.symm, hJ, d⟩ (by dsimp only; omega) rfl PU (eW _)
   ·rw [if_pos rfl] at d r
    try repeat' (first | refine KO ?_ | ((with_reducible apply kW 0); (iterate 7 exact rfl); (rw [ak, ah]; omega); (dsimp only [fD])) | (refine KV (b := by first | exact U1 k | ((with_reducible apply eQ 2); (iterate 3 exact rfl); exact ag) | ((with_reducible apply eQ 0); (iterate 3 exact rfl); exact o)) (c := ?_)) | refine KZ ?_)
    all_goals refine gC (n' := s.names.length) (xs' := (bl.set k ⟨nm, kd, true, (h : Int)⟩).flatMap jF) 0 rfl rfl (nT af (vs := [.int .i64 (h : Int)]) (k := 3) (n := 1) (by omega) bl k _ z rfl) ?_
    all_goals exact cP (k + 1, h + 1, M2, bl.set k ⟨nm, kd, true, (h : Int)⟩) ⟨by dsimp only; omega, r.symm, fun f => by rw [ad f, show k + 1 - (h + 1) = k - h by omega], d⟩ (by dsimp only; omega) rfl PU (eW _)
  ·try repeat' (refine KZ ?_)
   have a6 : k = s.names.length := by omega
   subst a6
   rw [aG (aD _)] at hh t
   rw [bT (aD _), fI] at t
   have hone : (nL (ps.take i) s).names = bl := by rw [yQ, t, base]
   have az := aCy hF al aa
   rw [hone, ← ai] at az
   have ba : ∀ f, getM f M2 = base ps (i + 1) f := fun f => by
    rw [ad f, base, base, MH aa, hh]
    by_cases hf : f = s.fn
    ·rw [if_pos hf, if_pos hf.symm]; omega
    ·simp only [if_neg hf, if_neg (fun e : s.fn = f => hf e.symm), cB]
   refine gC (n' := bl.length) (xs' := bl.flatMap jF) 0 rfl ah.symm rfl ?_
   refine lR (L' := .mp ⟨bm, mkM M2 0, (M2 : List (Int × Nat)).length⟩ :: .inr ⟨.slice (some ⟨g, 0, none⟩) cs.length cap, 43, 5, cs.length, cs.flatMap eE⟩ :: fZ (fs2.set i (.slice A4 s.names.length c4, bl))) (by rw [JM, ← hR]; exact wY (F := [_, _]) _ (by rw [JO, hF.1]; omega)) ?_
   exact cP (i + 1, M2, fs2.set i (.slice A4 s.names.length c4, bl)) ⟨by dsimp only; omega, ba, az⟩ (by dsimp only; omega) rfl PU (eW _)
 ·have a7 : i = ps.length := by omega
  rw [a7] at hF
  try repeat' (refine KZ ?_)
  refine lR (L' := (.inr ⟨.slice (some ⟨g, 0, none⟩) cs.length cap, 43, 5, cs.length, cs.flatMap eE⟩ :: fZ fs2) ++ [.mp ⟨bm, mkM M 0, (M : List (Int × Nat)).length⟩]) (dE _ _) ?_
  exact GL (Ls := fun i : List Fm => .inr ⟨.slice (some ⟨g, 0, none⟩) cs.length cap, 43, 5, cs.length, cs.flatMap eE⟩ :: fZ i) (Post := fun _ v i => v = .slice (some ⟨g, 0, none⟩) cs.length cap ∧ UT ps fs ps.length i) (.inr ⟨.slice (some ⟨g, 0, none⟩) cs.length cap, 43, 5, cs.length, cs.flatMap eE⟩ :: fZ fs2).length fs2 aw rfl (cN rfl) (AM _ _) rfl (fun _ _ => ⟨rfl, hF⟩)
end Go.Proofs.YtlllalmkkaolfaaGreatDoor
namespace Go.Vcg
open Go.RowKit
theorem Bk.YY : ∀ {x : Bk} {μ μ' : Mem}, Bk.sh x μ → MLe μ μ' → Bk.sh x μ'
 | .inl _, _, _, ⟨arr, e, h⟩, hl => ⟨arr, hl _ _ e, h⟩
 | .inr _, _, _, ⟨h, k⟩, hl => ⟨h, k.imp (fun h => h) fun ⟨g, cap, cur, e, e2, h3⟩ => ⟨g, cap, cur, e, hl _ _ e2, h3⟩⟩
 | .mp _, _, _, h, hl => hl _ _ h
 | .it .., _, _, h, hl => hl _ _ h
theorem xR {P : Program} {X : Ctx} {Q : Exit → Act → World → Prop} {l : bP} {c : Code} : ∀ {L : List Bk} {μ : Mem}, (∀ μ', MLe μ μ' → (∀ x ∈ L, Bk.sh x μ') → GC P X c Q μ' l []) → GC P X c Q μ l L
 | [], μ, h => h μ (MLe.refl _) (fun x a => by cases a)
 | y :: L, μ, h => oY rfl fun μ1 h1 b => xR fun μ2 h2 hL => h μ2 (h1.trans h2) fun x a => by
     rcases aW.1 a with rfl | a
     ·exact Bk.YY b h2
     ·exact hL x a
theorem QS {L' L : List Bk} (y : Bk) (h : Sel L' L) : Sel L' (y :: L) := by
 induction h with
 | nil L => exact .nil _
 | cons h hr ih => exact Sel.cons (a := y :: _) h ih
theorem splitB_all (L : List Bk) : splitB L.length L = some (L, []) := by
 have := AM L []
 rwa [fI] at this
end Go.Vcg
namespace Go.Proofs.YtlllalmkkaolfaaGreatDoor
open Go.RowKit Go.Vcg
theorem UC : fZ [] = [] := rfl
theorem xW (fs : List Fm) (f : Fm) : fZ (fs ++ [f]) = fZ fs ++ [CS f] := by unfold fZ; rw [bI]; rfl
theorem JN {fs : List Fm} {f : Fm} (h : f ∈ fs) : CS f ∈ fZ fs := by unfold fZ; exact eT h
theorem GV {f : Fm} {μ : Mem} (h : Bk.sh (CS f) μ) (hl : f.2.length ≤ 10000000) : BdV μ f.2 f.1 := by
 obtain ⟨v, bl⟩ := f
 obtain ⟨A, c, e, a⟩ := sT (enc := jF) (xs := bl) h rfl (by simp) rfl
 dsimp only at e
 subst e
 exact ⟨A, c, rfl, a, hl, Bk.cap h⟩
end Go.Proofs.YtlllalmkkaolfaaGreatDoor
namespace Go.Vcg
open Go.RowKit
section
variable {P : Program} {X : Ctx} {ops : Array Oper} {Q : Exit → Act → World → Prop} {rest : List Oper} {μ : Mem} {l : bP} {L : List Bk} {o : Oper} {d : Nat}
theorem SE : ∀ (L : List Bk) (i : Nat), gT L i = L[i]?
 | [], _ => rfl
 | _ :: _, 0 => rfl
 | _ :: L, i + 1 => SE L i
theorem QJ : ∀ (L : List Bk) (i : Nat) (y : Bk), fD L i y = L.set i y
 | [], _, _ => rfl
 | _ :: _, 0, _ => rfl
 | x :: L, i + 1, y => by
   show x :: fD L i y = _
   rw [QJ L i y]
   rfl
theorem aMt {l' : bP} {L' : List Bk} (hl : uK l' l) (hL : Sel L' L) (h : G P X ops Q rest μ l' L') : G P X ops Q rest μ l L := fun a w hs => h a w (hs.sel hl hL)
theorem sC {L' : List Bk} (hL : Sel L' L) (h : G P X ops Q rest μ l L') : G P X ops Q rest μ l L := aMt (fun _ _ h => h) hL h
theorem xQ {c : Code} {L' : List Bk} (hL : Sel L' L) (h : GC P X c Q μ l L') : GC P X c Q μ l L := XF (fun _ _ h => h) hL h
theorem rC (e s : Nat) (h : G P X ops Q rest μ l (.inr ⟨.slice none 0 0, e, s, 0, []⟩ :: L)) : G P X ops Q rest μ l L := fun a w hs => h a w (hs.vN e s)
theorem MQ {b t sz : Nat} {cs : bP} {xs : List Value} (n s : Nat) (c : sz = n * s) (hc : lks cs 0 sz = some xs) (hn : n ≤ 1000000) (h : G P X ops Q rest μ l (.inr ⟨.slice (some ⟨b, 0, none⟩) n n, t, s, n, xs⟩ :: L)) : G P X ops Q rest μ l (.inl ⟨b, t, sz, cs⟩ :: L) := fun a w hs => by
 subst c
 exact h a w (hs.YI (IR hc) (dO hn (by decide)))
theorem TP {f : FuncId} {vs : Array Value} {ι : Type} {Ls : ι → Bk} {Post : Mem → Value → ι → Prop} {y : Bk} (i : Nat) (hd : o.dst = some d) (hn : Nat.blt d X.n = true) (hw : gQ ops l o = some true) (hr : Ent P μ l L o f vs)
 (hi : gT L i = some y)
 (hc : ∀ w, MOk μ w → Own μ [y] w → Calls P f vs w fun e w' => ∃ v μ' i, e = .returned v ∧ lT (kI [y]) w w' μ [Ls i] μ' ∧ Post μ' v i)
 (h : ∀ v μ' j, MLe μ μ' → Post μ' v j → G P X ops Q rest μ' ((d, v) :: l) (fD L i (Ls j))) : G P X ops Q (o :: rest) μ l L := by
 have hg : L[i]? = some y := by rw [← SE]; exact hi
 have hlt : i < L.length := (List.getElem?_eq_some_iff.1 hg).1
 have b : (y :: L.eraseIdx i).Perm L := kF (F := []) hg
 refine PE b (mG (LB := [y]) (Lr := L.eraseIdx i) (Ls := fun j => [Ls j]) 1 hd hn hw (hr.perm b) rfl hc fun v μ' j hle a => ?_)
 have h2 := h v μ' j hle a
 rw [QJ] at h2
 exact PE (wY (F := []) (Ls j) hlt) h2
end
end Go.Vcg
namespace Go.Proofs.YtlllalmkkaolfaaGreatDoor
section
open Go.RowKit Go.Vcg Go.MapKept
abbrev aC4 (u : Us) : List Value := [.int .i64 u.at', .int .i64 u.scope, .int .i64 u.wh, .int .i64 u.hops, .int .i64 u.slot, .int .i64 u.kind, .string u.name, .bool u.check]
abbrev tV (x : Ux) : List Value := [.int .i64 x.u.at', .int .i64 x.u.scope, .int .i64 x.u.wh, .int .i64 x.u.hops, .int .i64 x.u.slot, .int .i64 x.u.kind, .string x.u.name, .bool x.u.check, .int .i64 (x.ts : Int), .int .i64 (x.tb : Int), .bool x.found, .int .i64 x.fn]
abbrev zM (w : Wh) : List Value := [.int .i64 w.scope, .int .i64 w.fn, .bool w.decl]
abbrev WV (w : Wh) : Value := .agg (zM w).toArray
abbrev lH (v : Value) (l : List Bd) : Bk := .inr ⟨v, 40, 4, l.length, l.flatMap jF⟩
structure FW where
 (sv uv : Value) (cs : List (Sc × Value)) (ce he de : List MapEntry) (cc hc dc : Nat)
def jE (cs : List (Sc × Value)) : List Fm := cs.map fun c => (c.2, c.1.names)
def FB (xb cb hb db : Nat) (s : FS) (q : FW) : List Bk := .inl ⟨xb, 59, 6, [(0, q.sv), (1, q.uv), (2, .int .i64 (s.funcs : Int)), (3, .map (some cb)), (4, .map (some hb)), (5, .map (some db))]⟩ ::
 .inr ⟨q.sv, 43, 5, q.cs.length, q.cs.flatMap eE⟩ :: .inr ⟨q.uv, 63, 12, s.uses.length, s.uses.flatMap tV⟩ :: .mp ⟨cb, q.ce, q.cc⟩ :: .mp ⟨hb, q.he, q.hc⟩ :: .mp ⟨db, q.de, q.dc⟩ :: fZ (jE q.cs)
theorem lI (xb cb hb db : Nat) (s : FS) (q : FW) : FB xb cb hb db s q = .inl ⟨xb, 59, 6, [(0, q.sv), (1, q.uv), (2, .int .i64 (s.funcs : Int)), (3, .map (some cb)), (4, .map (some hb)), (5, .map (some db))]⟩ ::
 .inr ⟨q.sv, 43, 5, q.cs.length, q.cs.flatMap eE⟩ :: .inr ⟨q.uv, 63, 12, s.uses.length, s.uses.flatMap tV⟩ :: .mp ⟨cb, q.ce, q.cc⟩ :: .mp ⟨hb, q.he, q.hc⟩ :: .mp ⟨db, q.de, q.dc⟩ :: fZ (jE q.cs) := rfl
abbrev aAl (x : Int) : Value := .int .i64 x
abbrev UE (x : Bool) : Value := .bool x
structure FR' (q : FW) (s : FS) : Prop where
 sc : scs q.cs = s.scopes
 ca : MpI aAl q.ce s.cases
 hd : MpI UE q.he s.heads
 dn : MpP q.de s.done
def LG (f : FuncId) (args : List Value) (xb cb hb db : Nat) (s s' : FS) (μ : Mem) (R : Value → Prop) : Prop := ∀ (w : World) (q : FW), MOk μ w → FR' q s → Go.Vcg.Own μ (FB xb cb hb db s q) w →
 Calls Tryz.prog f args.toArray w fun e w' => ∃ (v : Value) (μ' : Mem) (i : FW), e = .returned v ∧ lT (kI (FB xb cb hb db s q)) w w' μ (FB xb cb hb db s' i) μ' ∧ (FR' i s' ∧ R v)
def aNn (f : FuncId) (args : List Value) (xb cb hb db : Nat) (lv : Value) (l : List Bd) (s s' : FS) (μ : Mem) (R : Value → Prop) : Prop := ∀ (w : World) (q : FW), MOk μ w → FR' q s → Go.Vcg.Own μ (lH lv l :: FB xb cb hb db s q) w →
 Calls Tryz.prog f args.toArray w fun e w' => ∃ (v : Value) (μ' : Mem) (i : FW), e = .returned v ∧ lT (kI (lH lv l :: FB xb cb hb db s q)) w w' μ (FB xb cb hb db s' i) μ' ∧ (FR' i s' ∧ R v)
def RC (f : FuncId) (args : List Value) (lv : Value) (l l' : List Bd) (μ : Mem) : Prop := ∀ (w : World), MOk μ w → Go.Vcg.Own μ [lH lv l] w →
 Calls Tryz.prog f args.toArray w fun e w' => ∃ (v : Value) (μ' : Mem) (i : Value), e = .returned v ∧ lT (kI [lH lv l]) w w' μ [lH i l'] μ' ∧ v = i
section
variable {X : Ctx} {ops : Array Oper} {Q : Exit → Act → World → Prop} {rest : List Oper} {μ : Mem} {l : bP} {L Lr : List Bk} {o : Oper} {d : Nat} {f : FuncId} {xb cb hb db : Nat} {s s' : FS} {q : FW} {R : Value → Prop}
theorem rO {args : List Value} (k : Nat) (hd : o.dst = some d) (hn : Nat.blt d X.n = true) (hw : gQ ops l o = some true) (hr : Ent Tryz.prog μ l L o f args.toArray) (hL : splitB k L = some (Lr, FB xb cb hb db s q)) (b : FR' q s) (hc : LG f args xb cb hb db s s' μ R)
 (h : ∀ (v : Value) (μ' : Mem) (i : FW), MLe μ μ' → FR' i s' → R v → G Tryz.prog X ops Q rest μ' ((d, v) :: l) (Lr ++ FB xb cb hb db s' i)) : G Tryz.prog X ops Q (o :: rest) μ l L :=
 pJ (Ls := fun i => FB xb cb hb db s' i) (Post := fun _ v i => FR' i s' ∧ R v) k hd hn hw hr hL (fun w hμ c => hc w q hμ b c) fun v μ' i hle a => h v μ' i hle a.1 a.2
theorem wI {args : List Value} {bl : List Bd} {lv : Value} (k : Nat) (hd : o.dst = some d) (hn : Nat.blt d X.n = true) (hw : gQ ops l o = some true) (hr : Ent Tryz.prog μ l L o f args.toArray) (hL : splitB k L = some (Lr, lH lv bl :: FB xb cb hb db s q)) (b : FR' q s) (hc : aNn f args xb cb hb db lv bl s s' μ R)
 (h : ∀ (v : Value) (μ' : Mem) (i : FW), MLe μ μ' → FR' i s' → R v → G Tryz.prog X ops Q rest μ' ((d, v) :: l) (Lr ++ FB xb cb hb db s' i)) : G Tryz.prog X ops Q (o :: rest) μ l L :=
 pJ (Ls := fun i => FB xb cb hb db s' i) (Post := fun _ v i => FR' i s' ∧ R v) k hd hn hw hr hL (fun w hμ c => hc w q hμ b c) fun v μ' i hle a => h v μ' i hle a.1 a.2
theorem pQ {args : List Value} {bl bl' : List Bd} {lv : Value} (i : Nat) (hd : o.dst = some d) (hn : Nat.blt d X.n = true) (hw : gQ ops l o = some true) (hr : Ent Tryz.prog μ l L o f args.toArray) (hi : gT L i = some (lH lv bl)) (hc : RC f args lv bl bl' μ)
 (h : ∀ (v : Value) (μ' : Mem), MLe μ μ' → G Tryz.prog X ops Q rest μ' ((d, v) :: l) (fD L i (lH v bl'))) : G Tryz.prog X ops Q (o :: rest) μ l L :=
 TP (Ls := fun j => lH j bl') (Post := fun _ v j => v = j) i hd hn hw hr hi (fun w hμ b => hc w hμ b) fun v μ' j hle a => by subst a; exact h v μ' hle
theorem nC {P : Program} {fn : Func} {n : Nat} {r : ResultVar} {lv : Value} {μ0 : Mem} {M : List Nat} {bl bl' : List Bd} {w : World} (a : ∀ D, M.count D ≤ 1) (hr : fn.results = #[r]) (h : RV P μ l L r lv) (hL : gT L 0 = some (lH lv bl)) (hb : bl = bl') :
 GQ ⟨w, μ0, M, n⟩ (bodyPost P fn (fun e w' => ∃ (v : Value) (μ' : Mem) (i : Value), e = .returned v ∧ lT M w w' μ0 [lH i bl'] μ' ∧ v = i)) .ret μ l L := by
 subst hb
 cases L with
 | nil => cases hL
 | cons y L =>
   cases hL
   exact GL (Ls := fun i => [lH i bl]) (Post := fun _ v i => v = i) 1 lv a hr h rfl rfl (fun _ _ => rfl)
theorem mL {P : Program} {fn : Func} {n : Nat} {μ0 : Mem} {M : List Nat} {w : World} {ex : Exit} (k : Nat) (i : FW) (he : ex = .ret ∨ ex = .normal) (b : ∀ D, M.count D ≤ 1) (hr : fn.results = #[]) (hL : splitB k L = some (Lr, FB xb cb hb db s i)) (hs : s = s') (a : FR' i s) :
 GQ ⟨w, μ0, M, n⟩ (bodyPost P fn (fun e w' => ∃ (v : Value) (μ' : Mem) (i : FW), e = .returned v ∧ lT M w w' μ0 (FB xb cb hb db s' i) μ' ∧ (FR' i s' ∧ True))) ex μ l L := by
 subst hs
 exact wV (Ls := fun i => FB xb cb hb db s i) (Post := fun _ _ i => FR' i s ∧ True) k i he b hr hL rfl (fun _ _ _ => ⟨a, trivial⟩)
theorem vH {P : Program} {fn : Func} {n : Nat} {r : ResultVar} {v : Value} {μ0 : Mem} {M : List Nat} {w : World} (k : Nat) (i : FW) (b : ∀ D, M.count D ≤ 1) (hr : fn.results = #[r]) (h : RV P μ l L r v) (hL : splitB k L = some (Lr, FB xb cb hb db s i)) (hs : s = s') (a : FR' i s) (hv : R v) :
 GQ ⟨w, μ0, M, n⟩ (bodyPost P fn (fun e w' => ∃ (v : Value) (μ' : Mem) (i : FW), e = .returned v ∧ lT M w w' μ0 (FB xb cb hb db s' i) μ' ∧ (FR' i s' ∧ R v))) .ret μ l L := by
 subst hs
 exact OL (Ls := fun i => FB xb cb hb db s i) (Post := fun _ v i => FR' i s ∧ R v) k i b hr h hL rfl (fun _ _ => ⟨a, hv⟩)
theorem ZI {P : Program} {fn : Func} {n : Nat} {μ0 : Mem} {M : List Nat} {w : World} {ex : Exit} (i : FW) (he : ex = .ret ∨ ex = .normal) (b : ∀ D, M.count D ≤ 1) (hr : fn.results = #[]) (hL : Sel (FB xb cb hb db s i) L) (hs : s = s') (a : FR' i s) :
 GQ ⟨w, μ0, M, n⟩ (bodyPost P fn (fun e w' => ∃ (v : Value) (μ' : Mem) (i : FW), e = .returned v ∧ lT M w w' μ0 (FB xb cb hb db s' i) μ' ∧ (FR' i s' ∧ True))) ex μ l L :=
 gL hL (mL (Lr := []) 0 i he b hr rfl hs a)
theorem aEe {P : Program} {fn : Func} {n : Nat} {r : ResultVar} {v : Value} {μ0 : Mem} {M : List Nat} {w : World} {y : Bk} (i : FW) (b : ∀ D, M.count D ≤ 1) (hr : fn.results = #[r]) (hL : Sel (y :: FB xb cb hb db s i) L) (h : RV P μ l (y :: FB xb cb hb db s i) r v) (hs : s = s') (a : FR' i s) (hv : R v) :
 GQ ⟨w, μ0, M, n⟩ (bodyPost P fn (fun e w' => ∃ (v : Value) (μ' : Mem) (i : FW), e = .returned v ∧ lT M w w' μ0 (FB xb cb hb db s' i) μ' ∧ (FR' i s' ∧ R v))) .ret μ l L :=
 gL hL (vH (Lr := [y]) 1 i b hr h rfl hs a hv)
end
theorem xU (cs : List (Sc × Value)) : (jE cs).length = cs.length := aH ..
theorem sW {cs : List (Sc × Value)} {i : Nat} {c : Sc × Value} (h : cs[i]? = some c) : (jE cs)[i]? = some (c.2, c.1.names) := by unfold jE; rw [aN, h]; rfl
theorem CP (cs : List (Sc × Value)) (c : Sc × Value) : jE (cs ++ [c]) = jE cs ++ [(c.2, c.1.names)] := by unfold jE; rw [bI]; rfl
theorem lG (cs : List (Sc × Value)) : (scs cs).length = cs.length := aH ..
theorem VP {μ : Mem} {q : FW} {s : FS} {xb cb hb db : Nat} (b : FR' q s) (h : ∀ y ∈ FB xb cb hb db s q, Bk.sh y μ) (hl : s.scopes.length ≤ 9000) (hn : ∀ c ∈ s.scopes, c.names.length ≤ 10000000) : ∃ A c, q.sv = .slice A q.cs.length c ∧ ScR μ A q.cs := by
 have h1 := h _ (cK (aF ..))
 obtain ⟨A, c, e, d⟩ := sT (enc := eE) (xs := q.cs) h1 rfl (by simp) rfl
 refine ⟨A, c, e, d, by rw [← lG, b.sc]; exact hl, fun p a => ?_⟩
 have hm : p.1 ∈ s.scopes := by rw [← b.sc]; exact eT a
 have hf : (p.2, p.1.names) ∈ jE q.cs := eT (f := fun c : Sc × Value => (c.2, c.1.names)) a
 exact GV (f := (p.2, p.1.names)) (h _ (by
  rw [lI]
  iterate 6 apply cV
  exact JN hf)) (hn _ hm)
theorem aPt : FR' ⟨.slice none 0 0, .slice none 0 0, [], [], [], [], 0, 0, 0⟩ ⟨[], [], 0, [], [], []⟩ := ⟨rfl, rfl, rfl, rfl⟩
end
section
open Go.RowKit Go.Vcg
theorem qT {l : List Sc} {x : ByteArray} {f : Nat} {at' : Int} (h : 0 ≤ at' ∧ at' < l.length) {c : Sc} (hc : l[at'.toNat]? = some c) : findF l x (f + 1) at' = match fF x c.names 0 with
 | some k => some (at'.toNat, k)
 | none => if c.up ≥ at' then none else findF l x f c.up := by
 rw [findF, if_pos h, hc]
 rfl
theorem MZ (l m : List Sc) (x : ByteArray) : ∀ (f : Nat) (at' : Int), at' < l.length → findF (l ++ m) x f at' = findF l x f at'
 | 0, _, _ => rfl
 | f + 1, at', h => by
   by_cases h0 : 0 ≤ at'
   ·obtain ⟨c, hc⟩ : ∃ c, l[at'.toNat]? = some c := ⟨_, aA (by omega)⟩
    rw [qT ⟨h0, h⟩ hc, qT (l := l ++ m) ⟨h0, by rw [aK]; omega⟩ (by rw [aU (by omega)]; exact hc)]
    cases fF x c.names 0 with
    | some k => rfl
    | none =>
      dsimp only
      by_cases hu : c.up ≥ at'
      ·rw [if_pos hu, if_pos hu]
      ·rw [if_neg hu, if_neg hu, MZ l m x f c.up (by omega)]
   ·rw [pK (fun h => h0 h.1), pK (fun h => h0 h.1)]
theorem TX (l m : List Sc) (x : ByteArray) {at' : Int} (h : at' < l.length) : mC (l ++ m) at' x = mC l at' x := MZ l m x _ at' h
theorem IA {x : ByteArray} : ∀ {l : List Bd} {k j : Nat}, fF x l k = some j → ∃ b, l[j - k]? = some b ∧ b.name = x ∧ k ≤ j
 | [], _, _, h => by cases h
 | b :: r, k, j, h => by
   unfold fF at h
   split at h
   ·rename_i hb
    cases h
    exact ⟨b, by simp, hb, aD _⟩
   ·obtain ⟨c, h1, h2, h3⟩ := IA h
    refine ⟨c, ?_, h2, by omega⟩
    rw [show j - k = (j - (k + 1)) + 1 by omega, bG]
    exact h1
theorem qU {l : List Sc} {x : ByteArray} : ∀ {f : Nat} {at' : Int} {a b : Nat}, findF l x f at' = some (a, b) → ∃ c d, l[a]? = some c ∧ c.names[b]? = some d ∧ d.name = x ∧ (a : Int) ≤ at'
 | 0, _, _, _, h => by cases h
 | f + 1, at', a, b, h => by
   by_cases h0 : 0 ≤ at' ∧ at' < l.length
   ·obtain ⟨c, hc⟩ : ∃ c, l[at'.toNat]? = some c := ⟨_, aA (by omega)⟩
    rw [qT h0 hc] at h
    cases e : fF x c.names 0 with
    | some k =>
      rw [e] at h
      cases h
      obtain ⟨d, h1, h2, -⟩ := IA e
      exact ⟨c, d, hc, h1, h2, by omega⟩
    | none =>
      rw [e] at h
      dsimp only at h
      split at h
      ·cases h
      ·obtain ⟨c', d, h1, h2, h3, h4⟩ := qU h
       exact ⟨c', d, h1, h2, h3, by omega⟩
   ·rw [pK h0] at h
    cases h
theorem WY {l m : List Sc} {a b : Nat} (h : a < l.length) : nD (l ++ m) a b = nD l a b := by
 unfold nD
 rw [aU h]
structure KK (l : List Sc) (x : Ux) : Prop where
 lo : 0 ≤ x.u.scope
 hi : x.u.scope < l.length
 wh : x.u.wh = 2
 hs : x.u.hops = 0 ∧ x.u.slot = 0
 yes : x.found = true → mC l x.u.scope x.u.name = some (x.ts, x.tb) ∧ x.u.kind = nD l x.ts x.tb
 no : x.found = false → mC l x.u.scope x.u.name = none ∧ x.u.kind = 0 ∧ x.ts = 0 ∧ x.tb = 0
 ck : x.u.check = true → x.found = true ∧ (x.u.kind = 1 ∨ x.u.kind = 2)
theorem KK.app {l : List Sc} {x : Ux} (h : KK l x) (m : List Sc) : KK (l ++ m) x := by
 refine ⟨h.lo, by have := h.hi; rw [aK]; omega, h.wh, h.hs, fun hf => ?_, fun hf => ?_, h.ck⟩
 ·obtain ⟨h1, h2⟩ := h.yes hf
  refine ⟨by rw [TX l m _ h.hi]; exact h1, ?_⟩
  obtain ⟨c, d, h3, -⟩ := qU h1
  rw [WY (List.getElem?_eq_some_iff.1 h3).1]
  exact h2
 ·obtain ⟨h1, h2⟩ := h.no hf
  exact ⟨by rw [TX l m _ h.hi]; exact h1, h2⟩
def aQm (l : List Sc) : Prop := ∀ (i : Nat) (c : Sc), l[i]? = some c → -1 ≤ c.up ∧ c.up < i
structure SI (s : FS) : Prop where
 up : aQm s.scopes
 uses : ∀ x ∈ s.uses, KK s.scopes x
def WI (w : Wh) (s : FS) : Prop := 0 ≤ w.scope ∧ w.scope < s.scopes.length
structure Go' (s s' : FS) : Prop where
 si : SI s'
 pre : s.scopes <+: s'.scopes
theorem Go'.refl {s : FS} (h : SI s) : Go' s s := ⟨h, mR _⟩
theorem Go'.trans {s s' s'' : FS} (h : Go' s s') (a : Go' s' s'') : Go' s s'' := ⟨a.si, h.pre.trans a.pre⟩
theorem WI.go {w : Wh} {s s' : FS} (h : WI w s) (hg : Go' s s') : WI w s' := ⟨h.1, by have := hg.pre.length_le; have := h.2; omega⟩
theorem CJ {kind at' : Int} {w : Wh} {l : List Bd} {s : FS} (h : SI s) (hw : -1 ≤ w.scope ∧ w.scope < s.scopes.length) : Go' s (lO kind at' w l s) ∧ WI (qA w s) (lO kind at' w l s) := by
 refine ⟨⟨⟨fun i c hi => ?_, fun x b => (h.uses x b).app _⟩, List.prefix_append _ _⟩, ?_, ?_⟩
 ·have hi : (s.scopes ++ [(⟨w.scope, w.fn, kind, at', l⟩ : Sc)])[i]? = some c := hi
  by_cases hlt : i < s.scopes.length
  ·rw [aU hlt] at hi
   exact h.up i c hi
  ·rw [aX (by omega)] at hi
   cases a : i - s.scopes.length with
   | zero =>
     rw [a] at hi
     cases hi
     exact ⟨hw.1, by have := hw.2; show w.scope < _; omega⟩
   | succ j => rw [a] at hi; simp at hi
 ·show (0 : Int) ≤ (s.scopes.length : Int)
  omega
 ·show (s.scopes.length : Int) < ((s.scopes ++ [_]).length : Int)
  rw [aK, cT]
  omega
theorem GS {kind at' : Int} {w : Wh} {l : List Bd} {s : FS} (h : SI s) (hw : WI w s) : Go' s (kA kind at' w l s) ∧ WI (fU w l s) (kA kind at' w l s) := by
 unfold kA fU
 split
 ·exact ⟨Go'.refl h, hw⟩
 ·exact CJ h ⟨by have := hw.1; omega, hw.2⟩
theorem ZZ {t : T} {w : Wh} {s : FS} (h : SI s) (hw : WI w s) : Go' s (pF t w s) := by
 refine ⟨⟨h.up, fun x c => ?_⟩, mR _⟩
 have c : x ∈ s.uses ++ [_] := c
 rcases List.mem_append.1 c with c | c
 ·exact h.uses x c
 ·rw [aR.1 c]
  show KK s.scopes _
  cases hf : mC s.scopes w.scope t.s with
  | none =>
    dsimp only
    exact ⟨hw.1, hw.2, rfl, ⟨rfl, rfl⟩, fun h => (by cases h), fun _ => ⟨hf, rfl, rfl, rfl⟩, fun h => (by cases h)⟩
  | some p =>
    obtain ⟨a, b⟩ := p
    dsimp only
    refine ⟨hw.1, hw.2, rfl, ⟨rfl, rfl⟩, fun _ => ⟨hf, rfl⟩, fun h => (by cases h), fun h => ⟨rfl, ?_⟩⟩
    have h : ((decide (nD s.scopes a b = 1) || decide (nD s.scopes a b = 2)) && !w.decl && !qJ s a b w.fn) = true := h
    simp only [aS, Bool.or_eq_true, decide_eq_true_eq] at h
    exact h.1.1
section
variable {N : T → Wh → FS → FS} {fu : Nat}
def NS (N : T → Wh → FS → FS) : Prop := ∀ (k : T) (w : Wh) (s : FS), WI w s → SI s → Go' s (N k w s)
theorem yY {α : Type} {g : FS → α → FS} : ∀ (l : List α) (s : FS) (w : Wh), WI w s → SI s → (∀ k ∈ l, ∀ s, WI w s → SI s → Go' s (g s k)) → Go' s (l.foldl g s)
 | [], s, _, _, h, _ => Go'.refl h
 | k :: r, s, w, hw, h, hg => by
   rw [bY]
   have h1 := hg k (by simp) s hw h
   exact h1.trans (yY r _ w (hw.go h1) h1.si fun k hk => hg k (cK hk))
theorem AU (a : NS N) (l : List T) {w : Wh} {s : FS} (hw : WI w s) (h : SI s) : Go' s (uJ N l w s) := yY l s w hw h fun k _ s hw h => a k w s hw h
theorem SI.other {s s' : FS} (h : SI s) (e1 : s'.scopes = s.scopes) (e2 : s'.uses = s.uses) : SI s' := ⟨by rw [e1]; exact h.up, by rw [e1, e2]; exact h.uses⟩
theorem xO {s s' : FS} (h : SI s) (e1 : s'.scopes = s.scopes) (e2 : s'.uses = s.uses) : Go' s s' := ⟨h.other e1 e2, by rw [e1]; exact mR _⟩
theorem aMw (e : NS N) (t : T) {w : Wh} {s : FS} (hw : WI w s) (h : SI s) : Go' s (JD N fu t w s) := by
 unfold JD
 dsimp only
 have g1 : Go' s { s with funcs := s.funcs + 1 } := xO h rfl rfl
 generalize ({ s with funcs := s.funcs + 1 } : FS) = s1 at g1 ⊢
 have a : WI { w with fn := ((s.funcs + 1 : Nat) : Int) } s1 := hw.go g1
 generalize ({ w with fn := ((s.funcs + 1 : Nat) : Int) } : Wh) = w1 at a ⊢
 generalize (!decide (t.s = ⟨#[]⟩) && !jG t 1) = c
 have h2 : Go' s1 (if c = true then lO 5 t.at' w1 [⟨t.s, 7, false, 0⟩] s1 else s1) ∧ WI (if c = true then qA w1 s1 else w1) (if c = true then lO 5 t.at' w1 [⟨t.s, 7, false, 0⟩] s1 else s1) := by
  cases c
  ·exact ⟨Go'.refl g1.si, a⟩
  ·exact CJ g1.si ⟨by have := a.1; omega, a.2⟩
 generalize (if c = true then lO 5 t.at' w1 [⟨t.s, 7, false, 0⟩] s1 else s1) = s2 at h2 ⊢
 generalize (if c = true then qA w1 s1 else w1) = w2 at h2 ⊢
 obtain ⟨g2, d⟩ := h2
 obtain ⟨g3, b⟩ := CJ (kind := 1) (at' := t.at') (l := eG fu t) g2.si ⟨by have := d.1; omega, d.2⟩
 have g4 := e (dM t 0) _ _ b g3.si
 have g := ((g1.trans g2).trans g3).trans g4
 split
 ·exact g.trans (AU e _ (b.go g4) g4.si)
 ·exact g.trans (e _ _ _ (b.go g4) g4.si)
theorem aJa (b : NS N) (t : T) {w : Wh} {s : FS} (hw : WI w s) (h : SI s) : Go' s (zX N t w s) := by
 unfold zX
 dsimp only
 generalize (decide ((dM t 0).op = 2) && !decide ((dM t 0).n = 0)) = c
 have h2 : Go' s (if c = true then kA 3 t.at' w (eP (dM t 0) []) s else s) ∧ WI (if c = true then fU w (eP (dM t 0) []) s else w) (if c = true then kA 3 t.at' w (eP (dM t 0) []) s else s) := by
  cases c
  ·exact ⟨Go'.refl h, hw⟩
  ·exact GS h hw
 generalize (if c = true then kA 3 t.at' w (eP (dM t 0) []) s else s) = s1 at h2 ⊢
 generalize (if c = true then fU w (eP (dM t 0) []) s else w) = w1 at h2 ⊢
 obtain ⟨g1, a⟩ := h2
 refine g1.trans (yY _ _ w1 a g1.si fun k _ s hw h => ?_)
 split
 ·have ga : Go' s { s with heads := kM w1.scope true s.heads } := xO h rfl rfl
  have gb := b k.1 w1 _ (hw.go ga) ga.si
  exact (ga.trans gb).trans (xO gb.si rfl rfl)
 ·exact b _ _ _ hw h
theorem aCp (b : NS N) (t : T) {w : Wh} {s : FS} (hw : WI w s) (h : SI s) : Go' s (rG N t w s) := by
 unfold rG
 dsimp only
 obtain ⟨g1, a⟩ := GS (kind := 2) (at' := t.at') (l := (t.kids.drop 1).foldl (fun l k => bN k.kids true l) []) h hw
 generalize (t.kids.drop 1).foldl (fun l k => bN k.kids true l) [] = l at g1 a ⊢
 generalize kA 2 t.at' w l s = s1 at g1 a ⊢
 generalize fU w l s = w1 at a ⊢
 have g2 := b (dM t 0) w _ (hw.go g1) g1.si
 refine (g1.trans g2).trans (yY _ _ w1 (a.go g2) g2.si fun k _ s hw h => ?_)
 split
 ·have ga : Go' s { s with cases := kM w1.scope (k.2 : Int) s.cases } := xO h rfl rfl
  exact ga.trans (b _ _ _ (hw.go ga) ga.si)
 ·exact b _ _ _ hw h
theorem aJb (a : NS N) (t : T) {w : Wh} {s : FS} (hw : WI w s) (h : SI s) : Go' s (yB N t w s) := by
 unfold yB
 dsimp only
 have g1 := a (dM t 0) { w with decl := true } s hw h
 have g2 := AU a (t.kids.drop 1) (hw.go g1) g1.si
 refine (g1.trans g2).trans (yY _ _ w ((hw.go g1).go g2) g2.si fun x _ s hw h => ?_)
 split
 ·exact xO h rfl rfl
 ·exact Go'.refl h
theorem aFo (a : NS N) (t : T) {w : Wh} {s : FS} (hw : WI w s) (h : SI s) : Go' s (uF N t w s) := by
 unfold uF
 refine yY _ _ w hw h fun k _ s hw h => ?_
 split
 ·exact a _ _ _ hw h
 ·exact a _ _ _ hw h
theorem aI9 (a : NS N) (t : T) {w : Wh} {s : FS} (hw : WI w s) (h : SI s) : Go' s (zS N fu t w s) := by
 unfold zS
 split
 ·exact ZZ h hw
 split
 ·exact aMw a t (w := { w with decl := false }) hw h
 split
 ·obtain ⟨g1, b⟩ := GS (kind := 2) (at' := t.at') (l := bN t.kids true []) h hw
  exact g1.trans (AU a _ b g1.si)
 split
 ·exact aCp a t hw h
 split
 ·exact aJa a t hw h
 split
 ·obtain ⟨g1, b⟩ := GS (kind := 4) (at' := t.at') (l := dU 5 (bD (dM t 0)) []) h hw
  exact g1.trans (AU a _ b g1.si)
 split
 ·exact aJb a t hw h
 split
 ·split
  ·exact ZZ h hw
  ·exact AU a _ hw h
 ·exact aFo a t hw h
end
theorem aFp (fu : Nat) : ∀ f, NS (nbS fu f)
 | 0 => fun _ _ _ _ h => Go'.refl h
 | f + 1 => fun t _ _ hw h => aI9 (aFp fu f) t hw h
theorem VS (f : Nat) (t : T) : SI (iA f t) := by
 have h0 : SI ⟨[], [], 0, [], [], []⟩ := ⟨fun i c h => by simp at h, fun x a => by simp at a⟩
 obtain ⟨g, hw⟩ := CJ (kind := 0) (at' := t.at') (w := ⟨-1, 0, false⟩) (l := bN t.kids false []) h0 ⟨nK _, by simp⟩
 exact (AU (aFp f f) t.kids (w := ⟨0, 0, false⟩) (s := nB t) hw g.si).si
end
end Go.Proofs.YtlllalmkkaolfaaGreatDoor
