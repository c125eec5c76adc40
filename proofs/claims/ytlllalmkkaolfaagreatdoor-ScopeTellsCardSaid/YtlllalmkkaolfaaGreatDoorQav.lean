/- Package scope: slices.Equal, ContainsFunc and IndexFunc over bindings; named. -/
import Derived.Test.YtlllalmkkaolfaaGreatDoorQau
set_option maxRecDepth 20000
set_option maxHeartbeats 2000000
namespace Go.Proofs.YtlllalmkkaolfaaGreatDoor
section
open Go.RowKit Go.Vcg
def UH (x : ByteArray) (l : List Bd) : Bool := l.any fun o => decide (o.name = x)
theorem IB {x : ByteArray} : ∀ (l : List Bd) (k j : Nat) (b : Bd), l[j]? = some b → b.name = x → (fF x l k = some (k + j) ↔ UH x (l.take j) = false)
 | [], _, _, _, h, _ => by simp at h
 | a :: r, k, 0, b, h, hb => by
   simp at h
   subst h
   simp [fF, hb, UH]
 | a :: r, k, j + 1, b, h, hb => by
   have h2 : r[j]? = some b := by simpa using h
   have ih := IB r (k + 1) j b h2 hb
   unfold fF
   by_cases c : a.name = x
   ·rw [if_pos c]
    simp [UH, c]
   ·rw [if_neg c, show k + (j + 1) = k + 1 + j by omega, ih]
    simp [UH, c]
attribute [local irreducible] UH dP gN mF fF findF hI kQ nL G GC GQ GA eN Calls IntKind.wrap Int.decLt Int.decLe
theorem QY (w : World) (μ : Mem) (hμ : MOk μ w) (l m : List Bd) (u v : Value) (hu : BdV μ l u) (hv : BdV μ m v) : aV 37 #[u, v] w (.bool (dP (l = m))) := by
 obtain ⟨A, c, rfl, hS, hl⟩ := hu
 obtain ⟨B, c2, rfl, p, z⟩ := hv
 generalize q : dP (l = m) = R
 refine aE (args := [.slice A l.length c, .slice B m.length c2]) Tryz.func37 rfl Tryz.ntmps37 (by simp) hμ ?_
 by_cases hlen : l.length = m.length
 rotate_left
 ·have j : false = R := by rw [← q]; symm; exact CW (fun e => hlen (by rw [e]))
  have d : ¬ (l.length : Int) = (m.length : Int) := by omega
  try repeat' (refine KZ ?_)
  all_goals exact aJ rfl rfl (congrArg _ j)
 have d : (l.length : Int) = (m.length : Int) := by omega
 try repeat' (refine KZ ?_)
 refine bW (ι := Nat) (fun i => i ≤ l.length ∧ l.take i = m.take i) (fun i => l.length - i) (fun _ => μ) (fun i => [(13, .int .i64 (i : Int)), (12, .int .i64 (l.length : Int)), (0, .slice A l.length c), (1, .slice B m.length c2)]) (fun _ => []) 0 ⟨aI _, rfl⟩ (fun a w hs => J5 hs) ?_
 rintro i ⟨hi, f⟩
 by_cases hlt : i < l.length
 ·obtain ⟨ad, x, rfl, t, hm⟩ := hS.get hlt
  obtain ⟨ad2, y, rfl, r, o⟩ := p.get (show i < m.length by omega)
  have k := aAk x y
  have h : eM μ (ad.add (i * 4)) [.string x.name, .int .i64 x.kind, .bool x.held, .int .i64 x.slot] := hm
  have g : eM μ (ad2.add (i * 4)) [.string y.name, .int .i64 y.kind, .bool y.held, .int .i64 y.slot] := o
  by_cases b : x = y
  ·rw [FY b] at k
   try repeat' (refine KZ ?_)
   refine aT 9 ([]) (by kernel_rfl) rfl (by exact bE _) ?_
   all_goals (refine DD 0 ?_; refine DD 1 ?_; refine D2 2 rfl (by exact U1 i) ?_; refine D2 3 rfl (by exact U4 h) ?_; refine DD 4 ?_; refine DD 5 ?_; refine D2 6 rfl (by exact U1 i) ?_; refine D2 7 rfl (by exact U4 g) ?_; refine DD 8 ?_; refine D8 ?_)
   all_goals rw [k]
   all_goals try repeat' (refine KZ ?_)
   all_goals exact J2 (i + 1) ⟨by omega, OA f t r b⟩ (by omega)
  ·rw [CW b] at k
   have j : false = R := by rw [← q]; symm; exact CW (fun e => b (get_eq e t r))
   try repeat' (refine KZ ?_)
   refine aT 9 ([]) (by kernel_rfl) rfl (by exact bE _) ?_
   all_goals (refine DD 0 ?_; refine DD 1 ?_; refine D2 2 rfl (by exact U1 i) ?_; refine D2 3 rfl (by exact U4 h) ?_; refine DD 4 ?_; refine DD 5 ?_; refine D2 6 rfl (by exact U1 i) ?_; refine D2 7 rfl (by exact U4 g) ?_; refine DD 8 ?_; refine D8 ?_)
   all_goals rw [k]
   all_goals try repeat' (refine KZ ?_)
   all_goals exact aJ rfl rfl (congrArg _ j)
 ·have j : true = R := by
   rw [← q]; symm
   refine FY ?_
   rwa [aG (by omega), aG (by omega)] at f
  try repeat' (refine KZ ?_)
  exact aJ rfl rfl (congrArg _ j)
theorem TH (f : FuncId) (cap : List Value) (q1 : Bd → Bool) (l : List Bd) (A : Option Addr) (n c : Nat) (w : World) (μ : Mem) (hμ : MOk μ w) (x : gX Tryz.prog f = true) (y : Sl jF 4 μ A n l) (hn : n ≤ 10000000) (v : ∀ (o : Bd) (w : World) (μ' : Mem), o ∈ l → MOk μ' w → MLe μ μ' → Calls Tryz.prog f ([Value.agg (jF o).toArray] ++ cap).toArray w fun e w' => e = .returned (.bool (q1 o)) ∧ Below w.heap.size w w') :
 aV 75 #[.slice A n c, .func (.func f) #[] cap.toArray] w (.int .i64 (firstT (l.map q1))) := by
 refine aE (args := [.slice A n c, .func (.func f) #[] cap.toArray]) Tryz.func75 rfl Tryz.ntmps75 (by simp) hμ ?_
 have t : l.length = n := y.1
 have z : (l.map q1).length = n := by rw [aH]; exact t
 try repeat' (refine KZ ?_)
 refine bW (ι := Nat) (fun k => k ≤ n ∧ ∀ (j : Nat) (q : Bool), j < k → (l.map q1)[j]? = some q → q = false) (fun k => n - k) (fun _ => μ) (fun k => [(8, .int .i64 k), (7, .int .i64 n), (6, .slice A n c), (0, .slice A n c), (1, .func (.func f) #[] cap.toArray)]) (fun _ => []) 0 ⟨by omega, fun j _ h => absurd h (by omega)⟩ (fun a w hs => J5 hs) ?_
 rintro k ⟨hk, hf⟩
 by_cases hlt : k < n
 ·obtain ⟨ad, o, rfl, ho, hm⟩ := y.get hlt
  have g : (l.map q1)[k]? = some (q1 o) := by rw [aN, ho]; rfl
  have hc := fun w μc hw (hle : MLe μ μc) => v o w μc (aB ho) hw hle
  generalize q1 o = q at g hc
  have i : q = false → ∀ (j : Nat) (q : Bool), j < k + 1 → (l.map q1)[j]? = some q → q = false := fun h j p u r => by
   rcases cY j k with h1 | h1
   ·exact hf j p h1 r
   ·obtain rfl : j = k := by omega
    rw [g] at r
    cases r
    exact h
  cases q
  ·have hb := i rfl
   try repeat' (first | refine KO ?_ | ((with_reducible apply C1); exact rfl; exact EN; exact fun w μc hw d => hc w μc hw d.le) | (refine KV (b := by first | exact U1 k | exact U4 hm) (c := ?_)) | refine KZ ?_)
   all_goals exact J2 (k + 1) ⟨by omega, hb⟩ (by omega)
  ·try repeat' (first | refine KO ?_ | ((with_reducible apply C1); exact rfl; exact EN; exact fun w μc hw d => hc w μc hw d.le) | (refine KV (b := by first | exact U1 k | exact U4 hm) (c := ?_)))
   all_goals refine aJ rfl rfl ?_
   all_goals rw [qR g hf]
 ·try repeat' (refine KZ ?_)
  refine aJ rfl rfl ?_
  rw [nU (fun j q u => hf j q (by have := (List.getElem?_eq_some_iff.1 u).1; omega) u)]
theorem JW (f : FuncId) (cap : List Value) (q1 : Bd → Bool) (l : List Bd) (A : Option Addr) (n c : Nat) (w : World) (μ : Mem) (hμ : MOk μ w) (b : gX Tryz.prog f = true) (g : Sl jF 4 μ A n l) (hn : n ≤ 10000000) (d : ∀ (o : Bd) (w : World) (μ' : Mem), o ∈ l → MOk μ' w → MLe μ μ' → Calls Tryz.prog f ([Value.agg (jF o).toArray] ++ cap).toArray w fun e w' => e = .returned (.bool (q1 o)) ∧ Below w.heap.size w w') :
 aV 59 #[.slice A n c, .func (.func f) #[] cap.toArray] w (.bool (l.any q1)) := by
 refine aE (args := [.slice A n c, .func (.func f) #[] cap.toArray]) Tryz.func59 rfl Tryz.ntmps59 (by simp) hμ ?_
 have h : decide (0 ≤ firstT (l.map q1)) = l.any q1 := by rw [pA, hH]; rfl
 rw [← h]
 try repeat' (first | refine KO ?_ | ((with_reducible apply C1); exact rfl; exact EN; exact fun w μc hw a => TH f cap q1 l A n c w μc hw b (g.mono a.le) hn (fun o w μ' h1 h2 h3 => d o w μ' h1 h2 (a.le.trans h3))))
 exact aJ rfl rfl rfl
theorem SK (x : ByteArray) (o : Bd) (bc : Nat) (w : World) (μ : Mem) (hμ : MOk μ w) (hcell : oA μ ⟨bc, 0, none⟩ (.string x)) :
 Calls Tryz.prog 60 ([Value.agg (jF o).toArray] ++ [Value.pointer (some ⟨bc, 0, none⟩)]).toArray w fun e w' => e = .returned (.bool (decide (o.name = x))) ∧ Below w.heap.size w w' := by
 refine aE (args := [.agg #[.string o.name, .int .i64 o.kind, .bool o.held, .int .i64 o.slot], .pointer (some ⟨bc, 0, none⟩)]) Tryz.func60 rfl Tryz.ntmps60 (by simp) hμ ?_
 try repeat' (first | refine KO ?_ | (refine KV (b := by ((with_reducible apply jR); exact rfl; exact rfl; exact hcell)) (c := ?_)) | refine KZ ?_ | refine NB fun b => ?_)
 exact aJ rfl rfl rfl
end
section
open Go.RowKit Go.Vcg
def aDf (l : List Bd) : Prop := ∀ (k : Nat) (b : Bd), l[k]? = some b → YR l k b
theorem aG6 {l : List Bd} {k : Nat} {b : Bd} (h : l[k]? = some b) : YR l k b ↔ b.name ≠ ⟨#[]⟩ ∧ UH b.name (l.take k) = false ∧ 0 ≤ b.kind ∧ b.kind ≤ 7 ∧ b.kind ≠ 6 := by
 have := IB (x := b.name) l 0 k b h rfl
 rw [bB] at this
 unfold YR
 rw [this]
attribute [local irreducible] dP gN mF fF findF hI kQ nL G GC GQ GA eN Calls IntKind.wrap Int.decLt Int.decLe
theorem OH (w : World) (μ : Mem) (hμ : MOk μ w) (s : Sc) (v : Value) (hv : BdV μ s.names v) : aV 34 #[.agg (eE (s, v)).toArray] w (.bool (dP (aDf s.names))) := by
 obtain ⟨A, c, rfl, hS, hl, hcap⟩ := hv
 generalize hR : dP (aDf s.names) = R
 refine aE (args := [.agg #[.int .i64 s.up, .int .i64 s.fn, .int .i64 s.kind, .int .i64 s.at', .slice A s.names.length c]]) Tryz.func34 rfl Tryz.ntmps34 (by simp) hμ ?_
 try repeat' (first | refine KZ ?_ | refine NB fun b => ?_)
 obtain ⟨bs, p⟩ : ∃ y, y = b := ⟨_, rfl⟩
 rw [← p]
 clear p
 refine bW (ι := Nat) (fun k => k ≤ s.names.length ∧ ∀ (j : Nat) (b : Bd), j < k → s.names[j]? = some b → YR s.names j b) (fun k => s.names.length - k) (fun _ => μ) (fun k => [(9, .int .i64 (k : Int)), (8, .int .i64 (s.names.length : Int)), (7, .slice A s.names.length c), (1, .pointer (some ⟨bs, 0, none⟩))]) (fun _ => [.inl ⟨bs, 43, 5, idx 0 [.int .i64 s.up, .int .i64 s.fn, .int .i64 s.kind, .int .i64 s.at', .slice A s.names.length c]⟩]) 0 ⟨aI _, fun j b h => absurd h (by omega)⟩ (fun a w hs => J5 hs) ?_
 rintro k ⟨hk, q⟩
 by_cases u : k < s.names.length
 ·obtain ⟨ad, z, rfl, r, hm⟩ := hS.get u
  have l : eM μ (ad.add (k * 4)) [.string z.name, .int .i64 z.kind, .bool z.held, .int .i64 z.slot] := hm
  have f := aG6 r
  have aa := hS.take (k := k) (by omega)
  have g := fun (b : Nat) (w : World) (μc : Mem) (hw : MOk μc w) (hle : MLe μ μc) (hc : oA μc ⟨b, 0, none⟩ (.string z.name)) => JW 60 [.pointer (some ⟨b, 0, none⟩)] (fun o => decide (o.name = z.name)) (s.names.take k) (some ad) k c w μc hw (by kernel_rfl) (aa.mono hle) (by omega) (fun o w μ' h1 h2 h3 => SK z.name o b w μ' h2 (hc.mono h3))
  have hd : ((s.names.take k).any fun o => decide (o.name = z.name)) = UH z.name (s.names.take k) := rfl
  rw [hd] at g
  generalize UH z.name (s.names.take k) = d at f g
  by_cases i : YR s.names k z
  ·obtain ⟨g1, rfl, g3, g4, g5⟩ := f.1 i
   try repeat' (first | refine KO ?_ | refine K3 59 (fun w μc hw e => g _ w μc hw e.le (BU e.hd rfl)) ?_ | (refine KV (b := by first | exact U1 k | exact U4 l | ((with_reducible apply uZ k); (iterate 5 exact rfl); omega)) (c := ?_)) | refine KZ ?_ | refine NB fun b => ?_)
   all_goals exact cP (k + 1) ⟨by omega, fun j b x hb => by
    rcases cY j k with h | h
    ·exact q j b h hb
    ·have : j = k := by omega
     subst this
     rw [r] at hb
     cases hb
     exact i⟩ (by omega) rfl PU PS
  ·have hF : false = R := by rw [← hR]; symm; exact CW (fun h => i (h k z r))
   have t : ¬ (z.name ≠ ⟨#[]⟩ ∧ d = false ∧ 0 ≤ z.kind ∧ z.kind ≤ 7 ∧ z.kind ≠ 6) := fun h => i (f.2 h)
   try repeat' (first | refine KO ?_ | refine K3 59 (fun w μc hw e => g _ w μc hw e.le (BU e.hd rfl)) ?_ | (refine KV (b := by first | exact U1 k | exact U4 l | ((with_reducible apply uZ k); (iterate 5 exact rfl); omega)) (c := ?_)) | refine KZ ?_ | refine NB fun b => ?_ | (refine KB ?_ ?_ <;> intro hp))
   all_goals first | exact aJ rfl rfl (congrArg _ hF) | (exfalso; exact t ⟨by assumption, by assumption, by omega, by omega, by omega⟩) | skip
 ·have hT : true = R := by
   rw [← hR]; symm
   exact FY (fun j b x => q j b (by have := (List.getElem?_eq_some_iff.1 x).1; omega) x)
  try repeat' (refine KZ ?_)
  exact aJ rfl rfl (congrArg _ hT)
end
section
open Go.RowKit Go.Vcg
theorem aJ9 (l : List Bd) : ∀ u ∈ l.flatMap jF, u.oneCell' = true := fun u hu => by
 obtain ⟨b, -, hb⟩ := List.mem_flatMap.1 hu
 simp at hb
 rcases hb with rfl | rfl | rfl | rfl <;> rfl
attribute [local irreducible] dP gN mF fF findF hI kQ nL G GC GQ GA eN Calls IntKind.wrap Int.decLt Int.decLe
theorem YC (w : World) (μ : Mem) (hμ : MOk μ w) (l : List Bd) (v : Value) (hv : BdV μ l v) : Calls Tryz.prog 35 #[v] w (pV w 40 4 l.length (l.flatMap jF)) := by
 obtain ⟨A, c, rfl, d, hl, hcap⟩ := hv
 refine aE (args := [.slice A l.length c]) Tryz.func35 rfl Tryz.ntmps35 (by simp) hμ ?_
 have h1 := aJ9 l
 have h2 := JE l
 cases A with
 | none =>
   have h0 : l = [] := by
    cases l with
    | nil => rfl
    | cons x r =>
      obtain ⟨a, e, _⟩ := d.2 (by simp)
      cases e
   subst h0
   try repeat' (first | refine KO ?_ | (refine KV (b := by ((with_reducible apply yJ); exact rfl; exact rfl)) (c := ?_)))
   exact DX 40 4 (nG 0 rfl rfl rfl)
 | some ad =>
   try repeat' (first | (with_reducible apply XH 4) | refine KO ?_ | (((with_reducible apply oZ); (iterate 3 exact rfl); (repeat with_reducible exact fE); (iterate 6 exact rfl); (((with_reducible apply OE); exact rfl; exact d; simp)); omega; (assumption); omega; omega; intro v)) | (refine KV (b := by ((with_reducible apply yJ); exact rfl; exact rfl)) (c := ?_)) | refine KZ ?_ | refine NB fun b => ?_)
   simp only [bB, aP]
   exact nG 0 rfl rfl rfl
end
end Go.Proofs.YtlllalmkkaolfaaGreatDoor
namespace Go.Vcg
open Go.RowKit
end Go.Vcg
namespace Go.Proofs.YtlllalmkkaolfaaGreatDoor
section
open Go.RowKit Go.Vcg
theorem IH : ∀ (l pre : List Sc) (j : Nat), (kQ pre l)[j]? = (l[j]?).map (nL (pre ++ l.take j))
 | [], _, _ => by simp [kQ]
 | s :: r, pre, 0 => by simp [kQ]
 | s :: r, pre, j + 1 => by
   rw [kQ, bG, bG, IH r (pre ++ [s]) j]
   simp
theorem RY (l : List Sc) : l = kQ [] l ↔ ∀ (j : Nat) (s : Sc), l[j]? = some s → (nL (l.take j) s).names = s.names := by
 constructor
 ·intro h j s hs
  have h1 := IH l [] j
  rw [← h, hs, aP] at h1
  have h2 : s = nL (l.take j) s := cX h1
  rw [← h2]
 ·intro h
  apply dW
  intro j
  rw [IH, aP]
  cases hs : l[j]? with
  | none => rfl
  | some s =>
    have h1 := h j s hs
    obtain ⟨a, b, c, d, e⟩ := s
    show some _ = some (nL (l.take j) _)
    rw [yQ]
    rw [yQ] at h1
    dsimp only at h1
    rw [h1]
attribute [local irreducible] fZ base dP gN mF fF findF hI kQ nL G GC GQ GA eN Calls IntKind.wrap Int.decLt Int.decLe
theorem RT (w : World) (μ : Mem) (hμ : MOk μ w) (ps : List (Sc × Value)) (A : Option Addr) (c : Nat) (bd : ScR μ A ps) : aV 18 #[.slice A ps.length c] w (.bool (dP (KL (scs ps)))) := by
 have b6 := bd
 obtain ⟨hS, hl, e⟩ := bd
 have b8 : (scs ps).length = ps.length := aH ..
 generalize hR : dP (KL (scs ps)) = R
 refine aE (args := [.slice A ps.length c]) Tryz.func18 rfl Tryz.ntmps18 (by simp) hμ ?_
 by_cases h0 : 0 < ps.length
 rotate_left
 ·have hF : false = R := by
   rw [← hR]; symm
   exact CW (fun h => by
    obtain ⟨⟨s, hs, -⟩, -⟩ := h
    have := (List.getElem?_eq_some_iff.1 hs).1
    omega)
  try repeat' (refine KZ ?_)
  all_goals exact aJ rfl rfl (congrArg _ hF)
 obtain ⟨ad, x0, rfl, hx0, bw⟩ := hS.get h0
 have ap := jB hx0
 obtain ⟨x0, xv0⟩ := x0
 have ao : eM μ (ad.add (0 * 5)) [.int .i64 x0.up, .int .i64 x0.fn, .int .i64 x0.kind, .int .i64 x0.at', xv0] := bw
 have a8 := (e _ (aB hx0)).one
 dsimp only at ap a8
 by_cases bn : x0.kind = 0 ∧ x0.up = -1 ∧ x0.fn = 0
 rotate_left
 ·have hF : false = R := by
   rw [← hR]; symm
   exact CW (fun h => by
    obtain ⟨⟨s, hs, h1⟩, -⟩ := h
    rw [ap] at hs
    cases hs
    exact bn h1)
  try repeat' (first | refine KO ?_ | (refine KV (b := by first | exact U1 0 | exact U4 ao) (c := ?_)) | refine KZ ?_ | (refine KB ?_ ?_ <;> intro hp))
  all_goals first | exact aJ rfl rfl (congrArg _ hF) | skip
 obtain ⟨bz, bs, aj⟩ := bn
 try repeat' (first | refine KO ?_ | (refine KV (b := by first | exact U1 0 | exact U4 ao) (c := ?_)) | refine KZ ?_)
 refine nH 43 5 ?_
 refine bW (ι := Nat × List (Sc × Value) × List Fm × Value) (fun q => q.1 ≤ ps.length ∧ scs q.2.1 = (scs ps).take q.1 ∧ q.2.1.length = q.1 ∧ q.2.2.1.length = q.1 ∧ (∀ (j : Nat) (c : Sc × Value) (f : Fm), q.2.1[j]? = some c → q.2.2.1[j]? = some f → c.2 = f.1 ∧ f.2 = c.1.names) ∧ (∀ (j : Nat) (s : Sc), j < q.1 → (scs ps)[j]? = some s → aHb j s ∧ aDf s.names) ∧ (∀ u ∈ q.2.1.flatMap eE, u.oneCell' = true)) (fun q => ps.length - q.1) (fun _ => μ) (fun q => [(34, .int .i64 (q.1 : Int)), (33, .int .i64 (ps.length : Int)), (32, .slice (some ad) ps.length c), (3, q.2.2.2), (0, .slice (some ad) ps.length c)]) (fun q => .inr ⟨q.2.2.2, 43, 5, q.2.1.length, q.2.1.flatMap eE⟩ :: fZ q.2.2.1) (0, [], [], .slice none 0 0) ⟨aI _, rfl, rfl, rfl, fun j c f h => by simp at h, fun j s h => absurd h (by omega), by simp⟩ (fun a w hs => by
  show St _ _ _ (_ :: fZ []) _ _
  rw [UC]
  exact hs.sel PU (eW _)) ?_
 rintro ⟨i, cs, fs, vo⟩ ⟨hi, au, av, ar, o, aq, ab⟩
 dsimp only at hi au av ar o aq ab ⊢
 refine fW 0 rfl ?_
 rintro A1 c1 rfl bf
 by_cases hlt : i < ps.length
 ·obtain ⟨ad2, x, e2, hx, hm⟩ := hS.get hlt
  cases e2
  have ai := jB hx
  obtain ⟨x, xv⟩ := x
  have aw := e _ (aB hx)
  obtain ⟨A3, c3, ba, hB, b2⟩ := e _ (aB hx)
  dsimp only at ai ba hB b2 aw
  subst ba
  have bi : eM μ (ad.add (i * 5)) [.int .i64 x.up, .int .i64 x.fn, .int .i64 x.kind, .int .i64 x.at', .slice A3 x.names.length c3] := hm
  have r := fun w μc hw (hle : MLe μ μc) => OH w μc hw x _ (aw.mono hle)
  by_cases l : aHb i x ∧ aDf x.names
  rotate_left
  ·have hF : false = R := by
    rw [← hR]; symm
    exact CW (fun h => l (h.2.1 i x ai))
   have ag : ¬ (0 ≤ x.at' ∧ (0 < i → 0 ≤ x.up ∧ x.up < i ∧ 1 ≤ x.kind ∧ x.kind ≤ 5 ∧ 0 ≤ x.fn)) ∨ dP (aDf x.names) = false := by
    by_cases h1 : aHb i x
    ·exact .inr (CW fun h2 => l ⟨h1, h2⟩)
    ·exact .inl h1
   generalize dP (aDf x.names) = d at r ag
   try repeat' (first | ((with_reducible show GC _ _ (Code.seq (Code.region 9 _ _) _) _ _ _ _); (apply dF)) | refine KO ?_ | refine K2 34 r ?_ | (refine KV (b := by first | exact U1 i | exact U4 bi) (c := ?_)) | refine KZ ?_ | refine NB fun b => ?_ | (refine KB ?_ ?_ <;> intro hp))
   all_goals first | exact aJ rfl rfl (congrArg _ hF) | (exfalso; rcases ag with h | h <;> first | omega | simp_all)
  obtain ⟨bc, bg⟩ := l
  rw [FY bg] at r
  have bb := bc
  unfold aHb at bb
  try repeat' (first | ((with_reducible show GC _ _ (Code.seq (Code.region 9 _ _) _) _ _ _ _); (apply dF)) | refine KO ?_ | refine K2 34 r ?_ | (refine KV (b := by first | exact U1 i | exact U4 bi) (c := ?_)) | refine KZ ?_ | refine NB fun b => ?_ | (refine KB ?_ ?_ <;> intro hp))
  all_goals refine gcs ?_
  all_goals try repeat' (first | refine KZ ?_ | ((with_reducible apply F3 35); exact rfl; exact EN; exact fun w μc hw t => YC w μc hw _ _ (aw.mono t.le); intro v4; (with_reducible apply eU 0); exact rfl; rintro A4 c4 rfl b7) | (((with_reducible apply oZ); (iterate 3 exact rfl); (repeat first | with_reducible exact fE | with_reducible apply fV); (iterate 6 exact rfl); (((with_reducible apply jS); exact rfl; (repeat with_reducible exact fO); exact rfl)); exact rfl; exact gB (by (repeat first | with_reducible exact fS | ((with_reducible apply eY); exact rfl))); omega; omega; intro v)) | refine NB fun b => ?_)
  all_goals refine gC (n' := (cs ++ [(x, Value.slice A4 x.names.length c4)]).length) (xs' := (cs ++ [(x, Value.slice A4 x.names.length c4)]).flatMap eE) 3 rfl (by simp) (by simp) ?_
  all_goals dsimp only [fD]
  all_goals refine IX (l' := [(34, .int .i64 ((i : Int) + 1)), (33, .int .i64 (ps.length : Int)), (32, .slice (some ad) ps.length c), (3, v), (0, .slice (some ad) ps.length c)]) (L' := .inr ⟨.slice A4 x.names.length c4, 40, 4, x.names.length, x.names.flatMap jF⟩ :: .inr ⟨v, 43, 5, (cs ++ [(x, Value.slice A4 x.names.length c4)]).length, (cs ++ [(x, Value.slice A4 x.names.length c4)]).flatMap eE⟩ :: fZ fs) PU (dR (jQ.refl _) (rV (jQ.refl _) (QS _ (QS _ (eW _))))) ?_
  all_goals refine lR (L' := .inr ⟨v, 43, 5, (cs ++ [(x, Value.slice A4 x.names.length c4)]).length, (cs ++ [(x, Value.slice A4 x.names.length c4)]).flatMap eE⟩ :: fZ (fs ++ [(.slice A4 x.names.length c4, x.names)])) (by rw [xW]; exact (dE _ (_ :: fZ fs))) ?_
  all_goals exact cP (i + 1, cs ++ [(x, .slice A4 x.names.length c4)], fs ++ [(.slice A4 x.names.length c4, x.names)], v) ⟨by dsimp only; omega, by rw [bQ, ai, ← au]; simp, by simp [av], by simp [ar], fun j c f h1 h2 => by
   dsimp only at h1 h2
   rw [List.getElem?_append] at h1 h2
   by_cases hj : j < i
   ·rw [if_pos (by omega)] at h1 h2
    exact o j c f h1 h2
   ·rw [if_neg (by omega)] at h1 h2
    rw [av] at h1
    rw [ar] at h2
    cases bm : j - i with
    | zero => rw [bm] at h1 h2; cases h1; cases h2; exact ⟨rfl, rfl⟩
    | succ m => rw [bm] at h1; simp at h1, fun j s hj hs => by
   dsimp only at hj
   by_cases h : j < i
   ·exact aq j s h hs
   ·obtain rfl : j = i := by omega
    rw [ai] at hs
    cases hs
    exact ⟨bc, bg⟩, fun u hu => by
   dsimp only at hu
   rw [cG] at hu
   rcases List.mem_append.1 hu with hu | hu
   ·exact ab u hu
   ·simp at hu
    rcases hu with rfl | rfl | rfl | rfl | rfl <;> rfl⟩ (by dsimp only; omega) rfl PU (eW _)
 ·have b1 : i = ps.length := by omega
  subst b1
  obtain ⟨g, rfl⟩ : ∃ g, A1 = some ⟨g, 0, none⟩ := by
   rcases bf.form with ⟨-, h, -⟩ | h
   ·exfalso; omega
   ·exact h
  have af : scs cs = scs ps := by rw [au, aG (by omega)]
  have bh : ∀ s ∈ scs ps, s.names.length ≤ 10000000 := fun s hs => by
   obtain ⟨p, hp, rfl⟩ := List.mem_map.1 hs
   obtain ⟨_, _, _, _, h, _⟩ := e p hp
   exact h
  try repeat' (first | refine KO ?_ | (refine CF 36 ?_; (with_reducible apply mG (LB := .inr ⟨.slice (some ⟨g, 0, none⟩) cs.length c1, 43, 5, cs.length, cs.flatMap eE⟩ :: fZ fs) (Lr := []) (Ls := fun i : List Fm => .inr ⟨.slice (some ⟨g, 0, none⟩) cs.length c1, 43, 5, cs.length, cs.flatMap eE⟩ :: fZ i) (Post := fun _ v i => v = .slice (some ⟨g, 0, none⟩) cs.length c1 ∧ UT (scs ps) fs (scs ps).length i) (.inr ⟨.slice (some ⟨g, 0, none⟩) cs.length c1, 43, 5, cs.length, cs.flatMap eE⟩ :: fZ fs : List Bk).length); (iterate 3 exact rfl); exact EN; exact splitB_all _; exact fun w5 br b4 => EV (scs ps) cs fs g c1 w5 _ br af (by omega) (by omega) bh o b4; rintro v5 μ5 fs5 bj ⟨rfl, b5⟩; rw [fI]))
  refine xR fun μ3 bk bp => ?_
  have b3 := eR (enc := eE) (bp _ (aF ..)) rfl (fun _ _ => rfl) rfl
  have ae : MLe μ μ3 := bj.trans bk
  have bo : ∀ (j : Nat) (y : Sc × Value), cs[j]? = some y → BdV μ3 (nL ((scs ps).take j) y.1).names y.2 := fun j y hy => by
   have hj := (List.getElem?_eq_some_iff.1 hy).1
   obtain ⟨f0, aj⟩ : ∃ f0, fs[j]? = some f0 := ⟨_, aA (by omega)⟩
   have a7 : (scs ps)[j]? = some y.1 := by rw [← af]; exact jB hy
   have h5 := b5.2 j f0 y.1 aj a7
   rw [if_pos (by omega), ← (o j y f0 hy aj).1] at h5
   refine GV (bp _ (cK (JN (aB h5)))) ?_
   show (nL ((scs ps).take j) y.1).names.length ≤ 10000000
   rw [yQ, mN]
   exact bh _ (aB a7)
  refine bW (ι := Nat) (fun j => j ≤ cs.length ∧ ∀ (k : Nat) (s : Sc), k < j → (scs ps)[k]? = some s → (nL ((scs ps).take k) s).names = s.names) (fun j => cs.length - j) (fun _ => μ3) (fun j => [(89, .int .i64 (j : Int)), (88, .int .i64 (cs.length : Int)), (87, .slice (some ⟨g, 0, none⟩) cs.length c1), (0, .slice (some ad) ps.length c)]) (fun _ => []) 0 ⟨aI _, fun k s h => absurd h (by omega)⟩ (fun a w hs => J5 hs) ?_
  rintro j ⟨hj, aa⟩
  by_cases b0 : j < cs.length
  ·obtain ⟨adz, z, e3, hz, bt⟩ := b3.get b0
   cases e3
   obtain ⟨ady, y, e4, hy, bu⟩ := hS.get (show j < ps.length by omega)
   cases e4
   have a6 := jB hz
   have ah := jB hy
   rw [af, ah] at a6
   obtain ⟨y, yv⟩ := y
   obtain ⟨z, zv⟩ := z
   have a1 := cX a6
   dsimp only at a1
   subst a1
   have ay := bo j _ hz
   have ax := (e _ (aB hy)).mono ae
   dsimp only at ay ax ah
   have ak := fun w μc hw (hle : MLe μ3 μc) => QY w μc hw _ _ _ _ (ay.mono hle) (ax.mono hle)
   obtain ⟨Az, cz, az, -, -⟩ := id ay
   obtain ⟨Ay, cy, bq, -, -⟩ := id ax
   subst bq
   have bx : (nL ((scs ps).take j) y).names.length = y.names.length := by rw [yQ, mN]
   rw [bx] at az
   subst az
   have an : eM μ3 (ad.add (j * 5)) [.int .i64 y.up, .int .i64 y.fn, .int .i64 y.kind, .int .i64 y.at', .slice Ay y.names.length cy] := bu.mono ae
   have al : eM μ3 ((Addr.mk g 0 none).add (j * 5)) [.int .i64 y.up, .int .i64 y.fn, .int .i64 y.kind, .int .i64 y.at', .slice Az y.names.length cz] := bt
   by_cases t : (nL ((scs ps).take j) y).names = y.names
   ·rw [FY t] at ak
    try repeat' (first | refine KO ?_ | (refine KV (b := by first | exact U1 j | exact U4 al) (c := ?_)) | refine KZ ?_ | refine NB fun b => ?_)
    all_goals refine aT 9 _ (by kernel_rfl) rfl (aC aQ) ?_
              all_goals (refine D1 0 ?_; refine DD 1 ?_; refine DD 2 ?_; refine DD 3 ?_; refine D2 4 rfl (by exact U1 j) ?_; refine DD 5 ?_; refine D2 6 rfl (by exact U4 an) ?_; refine D3 7 ?_; refine D5 ?_; refine K2 37 ak ?_; refine D9 ?_; refine DD 8 ?_; refine D8 ?_)
    all_goals try repeat' (refine KZ ?_)
    all_goals exact cP (j + 1) ⟨by omega, fun k s hk hs => by
     by_cases h : k < j
     ·exact aa k s h hs
     ·obtain rfl : k = j := by omega
      rw [ah] at hs
      cases hs
      exact t⟩ (by omega) rfl PU PS
   ·have hF : false = R := by
     rw [← hR]; symm
     exact CW (fun h => t ((RY _).1 h.2.2 j y ah))
    rw [CW t] at ak
    try repeat' (first | refine KO ?_ | (refine KV (b := by first | exact U1 j | exact U4 al) (c := ?_)) | refine KZ ?_ | refine NB fun b => ?_)
    all_goals refine aT 9 _ (by kernel_rfl) rfl (aC aQ) ?_
              all_goals (refine D1 0 ?_; refine DD 1 ?_; refine DD 2 ?_; refine DD 3 ?_; refine D2 4 rfl (by exact U1 j) ?_; refine DD 5 ?_; refine D2 6 rfl (by exact U4 an) ?_; refine D3 7 ?_; refine D5 ?_; refine K2 37 ak ?_; refine D9 ?_; refine DD 8 ?_; refine D8 ?_)
    all_goals try repeat' (refine KZ ?_)
    all_goals exact aJ rfl rfl (congrArg _ hF)
  ·have hT : true = R := by
    rw [← hR]; symm
    exact FY ⟨⟨x0, ap, bz, bs, aj⟩, fun j s hs => aq j s (by have := (List.getElem?_eq_some_iff.1 hs).1; omega) hs, (RY _).2 fun k s hs => aa k s (by have := (List.getElem?_eq_some_iff.1 hs).1; omega) hs⟩
   try repeat' (refine KZ ?_)
   all_goals exact aJ rfl rfl (congrArg _ hT)
end
section
open Go.RowKit Go.Vcg Go.MapKept
theorem aIb {f : Nat} {t : T} {μ : Mem} {v : Value} (h : tY f t μ v) : ∃ (A : Option Addr) (n c : Nat) (e : Int), v = .tuple #[.slice A n c, .int .i64 e] := by
 rcases h with ⟨-, rfl⟩ | ⟨-, A, c, ps, rfl, -⟩
 ·exact ⟨_, _, _, _, rfl⟩
 ·exact ⟨_, _, _, _, rfl⟩
theorem ZA (μ : Mem) : ScR μ none [] := ⟨Sl.nil _ _ _ _, by simp, fun p a => by cases a⟩
theorem aBp {t : T} (b : t.op = 1) (a : rtB t 1 false = true) (f : Nat) (hf : t.size ≤ f) : fG (wO t) = fG (iA f t).scopes := by
 rw [aGp b a f hf]
 exact SJ (BV _)
theorem aL5 {t : T} {μ : Mem} {v : Value} (h : GY t μ v) (hn : 4096 < fG (wO t)) : v = .tuple #[.slice none 0 0, .int .i64 9] := by
 rcases h with h | h
 ·exact h.2
 ·exact absurd hn h.1
theorem aH7 {t : T} {μ : Mem} {v : Value} (h : GY t μ v) (hn : ¬4096 < fG (wO t)) : ∃ A c ps, v = .tuple #[.slice A ps.length c, .int .i64 0] ∧ ScR μ A ps ∧ scs ps = wO t := by
 rcases h with h | h
 ·exact absurd h.1 hn
 ·exact h.2
attribute [local irreducible] sF wO iA rtB tY GY aBx dP fG KL
attribute [local irreducible] jN dU eP bN dV eG anI jE fZ G GC GQ GA eN Calls IntKind.wrap Int.decLt Int.decLe
theorem VD (t : T) (v : Value) (w : World) (μ : Mem) (hμ : MOk μ w) (hm : tG μ) (hT : qX μ) (ht : TV μ t v) (hr : Ri t) :
 aV 5 #[v] w (.bool true) := by
 obtain ⟨u, rfl, hk⟩ := ht
 have ho := hk.one
 refine aE (args := [.agg (aY t u).toArray]) Tryz.func5 rfl Tryz.ntmps5 (by simp) hμ ?_
 try repeat' (first | ((with_reducible show GC _ _ (Code.seq (Code.region 4 _ _) _) _ _ _ _); (apply dF)) | refine KO ?_ | refine K2 6 (fun w μc hw e => SS w μc hw (hT.mono e)) ?_ | refine KZ ?_ | ((with_reducible apply F2 7); exact rfl; exact EN; exact fun w hw => aCw t _ w _ hw ⟨_, rfl, hk⟩; rintro v2 μ2 aa ⟨t2, ⟨u2, rfl, j⟩, ao, ae⟩; have ap := j.one) | refine NB fun b => ?_)
 have l := ae hr
 have hT := hT.mono aa
 have hm := hm.mono aa
 refine gcs ?_
 have g := fun w μc hw (hle : MLe μ2 μc) => wW t2 u2 w μc hw (j.mono hle) (by omega) l
 by_cases r : t2.op = 1 ∧ rtB t2 1 false = true
 rotate_left
 ·have ai : t2.op ≠ 1 ∨ rtB t2 1 false = false := by
   by_cases h1 : t2.op = 1
   ·right
    cases h : rtB t2 1 false with
    | false => rfl
    | true => exact absurd ⟨h1, h⟩ r
   ·exact .inl h1
  have i := fun w μc hw (hle : MLe μ2 μc) => aH3 t2 u2 w μc hw (j.mono hle) (by omega) l (hT.mono hle) ai
  by_cases h1 : t2.op = 1
  ·rw [ai.resolve_left (fun h => h h1)] at g
   try repeat' (first | refine KO ?_ | refine K2 12 i ?_ | refine K2 9 g ?_ | refine KZ ?_)
   all_goals exact aJ rfl rfl rfl
  ·try repeat' (first | refine KO ?_ | refine K2 12 i ?_ | refine KZ ?_)
   all_goals exact aJ rfl rfl rfl
 obtain ⟨p, f⟩ := r
 rw [f] at g
 have q := fun w μc hw (hle : MLe μ2 μc) => aBz t2 u2 w μc hw (j.mono hle) (by omega) l (hT.mono hle) (hm.mono hle)
 have i := fun w μc hw (hle : MLe μ2 μc) => QN 2000 t2 u2 w μc hw (j.mono hle) (by omega) (by omega) l (hT.mono hle) p f
 have ag := fun w μc hw (hle : MLe μ2 μc) => VT t2 u2 w μc hw (j.mono hle) (by omega) l p f
 have aj := aGp p f 2000 (by omega)
 have an := aC3 p f
 have hne := aBp p f 2000 (by omega)
 cases y : aBx t2 with
 | false =>
   rw [y] at q
   try repeat' (first | refine KO ?_ | refine K2 9 (fun w μc hw e => g w μc hw (a.trans e)) ?_ | refine K2 10 (fun w μc hw e => q w μc hw (a.trans e)) ?_ | refine KZ ?_ | ((with_reducible apply F2 12); exact rfl; exact EN; exact fun w hw => i w _ hw (MLe.refl _); rintro v3 μ3 a o; obtain ⟨A, n3, c, e3, rfl⟩ := aIb o))
   all_goals exact aJ rfl rfl rfl
 | true =>
 rw [y] at q
 by_cases hn : 4096 < fG (iA 2000 t2).scopes
 ·have ad : 4096 < fG (wO t2) := by rw [hne]; exact hn
  have k := fun (w : World) (μc : Mem) (hw : MOk μc w) => HO w μc hw [] [] none none 0 0 (ZA μc) (ZA μc)
  rw [show dP (scs [] = scs []) = true from FY rfl] at k
  try repeat' (first | refine KO ?_ | refine K2 9 (fun w μc hw e => g w μc hw (a.trans e)) ?_ | refine K2 10 (fun w μc hw e => q w μc hw (a.trans e)) ?_ | refine K2 17 (fun w μc hw e => k w μc hw) ?_ | refine KZ ?_ | ((with_reducible apply F2 12); exact rfl; exact EN; exact fun w hw => i w _ hw (MLe.refl _); rintro v3 μ3 a o; obtain rfl := aOj o hn) | ((with_reducible apply F2 16); exact rfl; exact EN; exact fun w hw => ag w _ hw a; rintro v4 μ4 z ab; obtain rfl := aL5 ab ad))
  all_goals exact aJ rfl rfl rfl
 ·have ad : ¬4096 < fG (wO t2) := by rw [hne]; exact hn
  try repeat' (first | ((with_reducible show GC _ _ (Code.seq (Code.region 10 _ _) _) _ _ _ _); (apply dF)) | refine KO ?_ | refine K2 9 (fun w μc hw e => g w μc hw (a.trans e)) ?_ | refine K2 10 (fun w μc hw e => q w μc hw (a.trans e)) ?_ | refine KZ ?_ | ((with_reducible apply F2 12); exact rfl; exact EN; exact fun w hw => i w _ hw (MLe.refl _); rintro v3 μ3 a o; obtain ⟨A, c, ps, rfl, x, af⟩ := aMc o hn) | ((with_reducible apply F2 16); exact rfl; exact EN; exact fun w hw => ag w _ hw a; rintro v4 μ4 z ab; obtain ⟨B, d, qs, rfl, al, ak⟩ := aH7 ab ad))
  have x := x.mono z
  have k := fun w μc hw (hle : MLe μ4 μc) => HO w μc hw ps qs A B c d (x.mono hle) (al.mono hle)
  have ah := fun w μc hw (hle : MLe μ4 μc) => RT w μc hw ps A c (x.mono hle)
  rw [FY (show scs ps = scs qs by rw [af, ak, aj])] at k
  rw [FY (show KL (scs ps) by rw [af, ← aj]; exact an)] at ah
  refine gcs ?_
  try repeat' (first | refine KO ?_ | refine K2 17 k ?_ | refine K2 18 ah ?_)
  all_goals exact aJ rfl rfl rfl
end
end Go.Proofs.YtlllalmkkaolfaaGreatDoor
