/- Package scope: how much the finder's state grows. -/
import Derived.Test.YtlllalmkkaolfaaGreatDoorQai
set_option maxRecDepth 20000
set_option maxHeartbeats 2000000
namespace Go.Proofs.YtlllalmkkaolfaaGreatDoor
section
open Go.RowKit Go.Vcg
structure Ks (t : T) : Prop where
 kc : Kc t
 dec : t.op = 3 → 1 ≤ t.kids.length
 vn : t.op = 2 → t.n = 0 ∨ t.n = 1 ∨ t.n = 2
def qS (t : T) : Prop := Ks t ∧ t.s.size ≤ 100000
theorem T.LH : T.zero.size = 1 := by rw [T.size_eq]; rfl
theorem sK (t : T) (i : Nat) : (dM t i).size ≤ t.size := by
 unfold dM
 cases h : t.kids[i]? with
 | none =>
   have := T.size_eq t
   simp only [Option.getD_none, T.LH]
   omega
 | some k =>
   have h1 := T.fN h
   simp only [jH]
   omega
theorem iV {t : T} {i : Nat} {k : T} (h : t.kids[i]? = some k) : dM t i = k := by unfold dM; rw [h]; rfl
theorem KJ (x : ByteArray) (k : Int) : ∀ l : List Bd, (jN x k l).length ≤ l.length + 1
 | [] => by simp [jN]
 | b :: r => by
   have := KJ x k r
   unfold jN
   split
   ·split <;> simp
   ·simp only [bF]
    omega
theorem nR {α β : Type} (g : List β → α → List β) (c : α → Nat) : ∀ (l : List α) (a : List β), (∀ k ∈ l, ∀ a, (g a k).length ≤ a.length + c k) → (l.foldl g a).length ≤ a.length + (l.map c).sum
 | [], a, _ => by simp
 | k :: r, a, h => by
   have h1 := h k (aF ..) a
   have h2 := nR g c r (g a k) fun k hk => h k (cK hk)
   simp only [bY, aO, dQ]
   omega
theorem aHq {α : Type} (l : List α) : (l.map fun _ => 1).sum = l.length := by induction l with
 | nil => rfl
 | cons x r ih => simp only [aO, dQ, bF, ih]; omega
theorem nA (k : Int) (xs : List ByteArray) (l : List Bd) : (dU k xs l).length ≤ l.length + xs.length := by
 have := nR (fun l x => jN x k l) (fun _ => 1) xs l fun x _ a => KJ x k a
 rw [aHq] at this
 exact this
theorem mY (t : T) (l : List Bd) : (eP t l).length ≤ l.length + szs t.kids :=
 nR (fun l d => dU t.n (bD (dM d 0)) l) T.size t.kids l fun d _ a => by
  have h1 := nA t.n (bD (dM d 0)) a
  have h2 := kH (dM d 0)
  have h3 := sK d 0
  omega
theorem iQ (kids : List T) (fs : Bool) (l : List Bd) : (bN kids fs l).length ≤ l.length + szs kids :=
 nR _ T.size kids l fun t _ a => by
  have h0 := bA t
  split
  ·have := mY t a
   omega
  ·split
   ·have := KJ t.s 3 a
    omega
   ·omega
theorem oX : ∀ (f : Nat) (t : T) (l : List Bd), t.size ≤ 2000 → (dV f t l).length ≤ l.length + 2000 * t.size
 | 0, t, l, _ => by unfold dV; omega
 | f + 1, t, l, h => by
   unfold dV
   have h0 := bA t
   split
   ·omega
   ·have h2 := nR (fun l k => dV f k l) (fun k => 2000 * k.size) t.kids (if t.op = 2 ∧ t.n = 0 then eP t l else l) fun k hk a => oX f k a (by
     have : k.size ≤ szs t.kids := T.eF (List.mem_map.2 ⟨k, hk, rfl⟩)
     omega)
    have h3 : ∀ l : List T, (l.map fun k => 2000 * k.size).sum = 2000 * szs l := fun l => by
     induction l with
     | nil => rfl
     | cons x r ih => simp only [aO, dQ, cO, ih]; omega
    rw [h3] at h2
    have h4 := mY t l
    have h5 : (if t.op = 2 ∧ t.n = 0 then eP t l else l).length ≤ l.length + szs t.kids := by split <;> omega
    omega
theorem EU (f : Nat) (t : T) (h : t.size ≤ 2000) : (eG f t).length ≤ 10000000 := by
 unfold eG
 dsimp only
 have h1 := sK t 0
 have h2 := sK t 1
 have h3 := nA 4 (bD (dM t 0)) []
 have h4 := kH (dM t 0)
 have h5 := oX f (dM t 0) (dU 4 (bD (dM t 0)) []) (by omega)
 rw [bJ] at h3
 split
 ·have := oX f (dM t 1) (dV f (dM t 0) (dU 4 (bD (dM t 0)) [])) (by omega)
  omega
 ·have h6 := bA (dM t 1)
  have c := nR (fun l k => dV f k (bN [k] true l)) (fun k => 2001 * k.size) (dM t 1).kids (dV f (dM t 0) (dU 4 (bD (dM t 0)) [])) fun k hk a => by
   have b : k.size ≤ szs (dM t 1).kids := T.eF (List.mem_map.2 ⟨k, hk, rfl⟩)
   have g := oX f k (bN [k] true a) (by omega)
   have e := iQ [k] true a
   have d : szs [k] = k.size := by simp [szs]
   omega
  have h3 : ∀ l : List T, (l.map fun k => 2001 * k.size).sum = 2001 * szs l := fun l => by
   induction l with
   | nil => rfl
   | cons x r ih => simp only [aO, dQ, cO, ih]; omega
  rw [h3] at c
  omega
def wtS (s : FS) : Nat := s.scopes.length + s.uses.length + s.funcs
def NmB (s : FS) : Prop := ∀ c ∈ s.scopes, c.names.length ≤ 10000000
structure GrS (m : Nat) (s s' : FS) : Prop where
 wt : wtS s' ≤ wtS s + m
 nm : NmB s → NmB s'
theorem GrS.refl (s : FS) : GrS 0 s s := ⟨aD _, fun h => h⟩
theorem GrS.trans {a b : Nat} {s s' s'' : FS} (h : GrS a s s') (c : GrS b s' s'') : GrS (a + b) s s'' := ⟨by have := h.wt; have := c.wt; omega, fun x => c.nm (h.nm x)⟩
theorem GrS.mono {a b : Nat} {s s' : FS} (h : GrS a s s') (c : a ≤ b) : GrS b s s' := ⟨by have := h.wt; omega, h.nm⟩
theorem tT {kind at' : Int} {w : Wh} {l : List Bd} (s : FS) (hl : l.length ≤ 10000000) : GrS 1 s (lO kind at' w l s) := by
 refine ⟨?_, fun h c hc => ?_⟩
 ·unfold wtS lO
  dsimp only
  rw [aK, cT]
  omega
 ·have hc : c ∈ s.scopes ++ [_] := hc
  rcases List.mem_append.1 hc with hc | hc
  ·exact h c hc
  ·rw [aR.1 hc]
   exact hl
theorem tS {kind at' : Int} {w : Wh} {l : List Bd} (s : FS) (hl : l.length ≤ 10000000) : GrS 1 s (kA kind at' w l s) := by
 unfold kA
 split
 ·exact (GrS.refl s).mono (by omega)
 ·exact tT s hl
theorem ZX (t : T) (w : Wh) (s : FS) : GrS 1 s (pF t w s) := by
 refine ⟨?_, fun h => h⟩
 unfold wtS pF
 dsimp only
 rw [aK, cT]
 omega
def NGs (N : T → Wh → FS → FS) (k : T) : Prop := ∀ (w : Wh) (s : FS), GrS (3 * k.size) s (N k w s)
section
variable {N : T → Wh → FS → FS} {fu : Nat}
theorem rN {α : Type} (g : FS → α → FS) (c : α → Nat) : ∀ (l : List α) (s : FS), (∀ k ∈ l, ∀ s, GrS (c k) s (g s k)) → GrS ((l.map c).sum) s (l.foldl g s)
 | [], s, _ => GrS.refl s
 | k :: r, s, h => (h k (aF ..) s).trans (rN g c r _ fun k hk => h k (cK hk))
theorem aPm (l : List T) : (l.map fun k => 3 * k.size).sum = 3 * szs l := by induction l with
 | nil => rfl
 | cons x r ih => simp only [aO, dQ, cO, ih]; omega
theorem LN : ∀ (l : List T) (n : Nat), ((l.zipIdx n).map fun k => 3 * k.1.size).sum = 3 * szs l
 | [], _ => rfl
 | x :: r, n => by
   have := LN r (n + 1)
   simp only [kX, aO, dQ, cO, this]
   omega
theorem vP {l : List T} {n : Nat} {p : T × Nat} (h : p ∈ l.zipIdx n) : p.1 ∈ l := by
 obtain ⟨a, b⟩ := p
 exact (List.mem_zipIdx h).2.2 ▸ lA _
theorem rE (l : List T) (a : ∀ k ∈ l, NGs N k) (w : Wh) (s : FS) : GrS (3 * szs l) s (uJ N l w s) := by
 have := rN (fun s k => N k w s) (fun k => 3 * k.size) l s fun k hk s => a k hk w s
 rw [aPm] at this
 exact this
theorem GrS.other {m : Nat} {s s1 s2 : FS} (h : GrS m s s1) (e1 : s2.scopes = s1.scopes) (e2 : s2.uses = s1.uses) (e3 : s2.funcs = s1.funcs) : GrS m s s2 := ⟨by have := h.wt; unfold wtS at *; rw [e1, e2, e3]; exact this, fun hn c hc => h.nm hn c (by rw [← e1]; exact hc)⟩
theorem OB {t : T} (h : 2 ≤ t.kids.length) : (dM t 0).size + (dM t 1).size ≤ szs t.kids ∧ dM t 0 ∈ t.kids ∧ dM t 1 ∈ t.kids := by
 unfold dM
 cases hk : t.kids with
 | nil => rw [hk] at h; simp at h
 | cons a r =>
   cases r with
   | nil => rw [hk] at h; simp at h
   | cons b r => simp [cO] <;> omega
theorem GB {t : T} (h : 1 ≤ t.kids.length) : (dM t 0).size + szs (t.kids.drop 1) = szs t.kids ∧ dM t 0 ∈ t.kids := by
 unfold dM
 cases hk : t.kids with
 | nil => rw [hk] at h; simp at h
 | cons a r => simp [cO]
theorem aI4 (t : T) (d : Ks t) (h4 : t.op = 4) (a : t.size ≤ 2000) (b : ∀ k, (k ∈ t.kids ∨ k ∈ (dM t 1).kids) → NGs N k) (w : Wh) (s : FS) : GrS (3 * t.size) s (JD N fu t w s) := by
 obtain ⟨e, m0, m1⟩ := OB (d.kc.two (.inl h4))
 have h0 := bA t
 have h1 := bA (dM t 1)
 unfold JD
 dsimp only
 have g1 : GrS 1 s { s with funcs := s.funcs + 1 } := ⟨by unfold wtS; dsimp only; omega, fun h => h⟩
 generalize ({ s with funcs := s.funcs + 1 } : FS) = s1 at g1 ⊢
 generalize (!decide (t.s = ⟨#[]⟩) && !jG t 1) = c
 generalize ({ w with fn := ((s.funcs + 1 : Nat) : Int) } : Wh) = w1
 have g2 : GrS 1 s1 (if c = true then lO 5 t.at' w1 [⟨t.s, 7, false, 0⟩] s1 else s1) := by
  cases c
  ·exact (GrS.refl s1).mono (by omega)
  ·exact tT s1 (by simp)
 generalize (if c = true then lO 5 t.at' w1 [⟨t.s, 7, false, 0⟩] s1 else s1) = s2 at g2 ⊢
 generalize (if c = true then qA w1 s1 else w1) = w2
 have g3 := tT (kind := 1) (at' := t.at') (w := w2) s2 (EU fu t a)
 have g4 := b (dM t 0) (.inl m0) (qA w2 s2) (lO 1 t.at' w2 (eG fu t) s2)
 have g := ((g1.trans g2).trans g3).trans g4
 split
 ·exact (g.trans (rE _ (fun k hk => b k (.inr hk)) _ _)).mono (by omega)
 ·exact (g.trans (b (dM t 1) (.inl m1) _ _)).mono (by omega)
theorem aFm (t : T) (b : t.size ≤ 2000) (a : ∀ k ∈ t.kids, NGs N k) (w : Wh) (s : FS) : GrS (3 * t.size) s (zX N t w s) := by
 have h0 := bA t
 unfold zX
 dsimp only
 have hl : (eP (dM t 0) []).length ≤ 10000000 := by
  have h1 := mY (dM t 0) []
  have h2 := sK t 0
  have h3 := bA (dM t 0)
  rw [bJ] at h1
  omega
 generalize (decide ((dM t 0).op = 2) && !decide ((dM t 0).n = 0)) = c
 have g1 : GrS 1 s (if c = true then kA 3 t.at' w (eP (dM t 0) []) s else s) := by
  cases c
  ·exact (GrS.refl s).mono (by omega)
  ·exact tS s hl
 generalize (if c = true then kA 3 t.at' w (eP (dM t 0) []) s else s) = s1 at g1 ⊢
 generalize (if c = true then fU w (eP (dM t 0) []) s else w) = w1
 have g2 := rN (fun s (k : T × Nat) =>
  if k.2 = 1 ∧ t.op ≠ 10 ∧ w1.scope ≠ w.scope then
   let s2 := N k.1 w1 { s with heads := kM w1.scope true s.heads }
   { s2 with heads := zN w1.scope s2.heads }
  else N k.1 w1 s) (fun k => 3 * k.1.size) (t.kids.zipIdx) s1 fun k hk s => by
   dsimp only
   split
   ·refine GrS.other (s1 := N k.1 w1 { s with heads := kM w1.scope true s.heads }) ?_ rfl rfl rfl
    have ga : GrS 0 s { s with heads := kM w1.scope true s.heads } := (GrS.refl s).other rfl rfl rfl
    exact (ga.trans (a k.1 (vP hk) _ _)).mono (by omega)
   ·exact a k.1 (vP hk) _ _
 rw [LN] at g2
 exact (g1.trans g2).mono (by omega)
theorem XE (t : T) (h1 : 1 ≤ t.kids.length) (c : t.size ≤ 2000) (b : ∀ k ∈ t.kids, NGs N k) (w : Wh) (s : FS) : GrS (3 * t.size) s (rG N t w s) := by
 have h0 := bA t
 obtain ⟨d, m0⟩ := GB h1
 unfold rG
 dsimp only
 have hl : ((t.kids.drop 1).foldl (fun l k => bN k.kids true l) []).length ≤ 10000000 := by
  have h2 := nR (fun l (k : T) => bN k.kids true l) T.size (t.kids.drop 1) [] fun k _ a => by
   have h3 := iQ k.kids true a
   have h4 := bA k
   omega
  have h5 : ((t.kids.drop 1).map T.size).sum = szs (t.kids.drop 1) := rfl
  rw [h5, bJ] at h2
  omega
 generalize (t.kids.drop 1).foldl (fun l k => bN k.kids true l) [] = l at hl ⊢
 have g1 := tS (kind := 2) (at' := t.at') (w := w) s hl
 generalize kA 2 t.at' w l s = s1 at g1 ⊢
 generalize fU w l s = w1
 have g2 := b (dM t 0) m0 w s1
 have g3 := rN (fun s (k : T × Nat) => N k.1 w1 (if w1.scope ≠ w.scope then { s with cases := kM w1.scope (k.2 : Int) s.cases } else s)) (fun k => 3 * k.1.size) ((t.kids.drop 1).zipIdx) (N (dM t 0) w s1) fun k hk s => by
  have ga : GrS 0 s (if w1.scope ≠ w.scope then { s with cases := kM w1.scope (k.2 : Int) s.cases } else s) := by
   split
   ·exact (GrS.refl s).other rfl rfl rfl
   ·exact GrS.refl s
  exact (ga.trans (b k.1 (cD (vP hk)) _ _)).mono (by omega)
 rw [LN] at g3
 exact ((g1.trans g2).trans g3).mono (by omega)
theorem aFn (t : T) (h1 : 1 ≤ t.kids.length) (c : ∀ k ∈ t.kids, NGs N k) (w : Wh) (s : FS) : GrS (3 * t.size) s (yB N t w s) := by
 have h0 := bA t
 obtain ⟨d, m0⟩ := GB h1
 unfold yB
 dsimp only
 have g1 := c (dM t 0) m0 { w with decl := true } s
 have g2 := rE (t.kids.drop 1) (fun k hk => c k (cD hk)) w (N (dM t 0) { w with decl := true } s)
 have g3 := rN (fun s x => match mC s.scopes w.scope x with
  | some (a, b) => { s with done := kM ((a : Int), (b : Int)) ((oS (a : Int) s.cases).getD 0) s.done }
  | none => s) (fun _ => 0) (bD (dM t 0)) (uJ N (t.kids.drop 1) w (N (dM t 0) { w with decl := true } s)) fun x _ s => by
  split
  ·exact (GrS.refl s).other rfl rfl rfl
  ·exact GrS.refl s
 have h5 : ∀ l : List ByteArray, (l.map fun _ => 0).sum = 0 := fun l => by induction l with
  | nil => rfl
  | cons x r ih => simp only [aO, dQ, ih]
 rw [h5] at g3
 exact ((g1.trans g2).trans g3).mono (by omega)
theorem aCo (t : T) (a : ∀ k ∈ t.kids, NGs N k) (w : Wh) (s : FS) : GrS (3 * szs t.kids) s (uF N t w s) := by
 unfold uF
 have g2 := rN (fun s (k : T × Nat) =>
  if t.op = 60 ∨ t.op = 61 ∨ t.op = 64 ∨ (t.op = 63 ∧ k.2 = 0) ∨ (t.op = 62 ∧ k.2 = 1) then N k.1 w s else N k.1 { w with decl := false } s) (fun k => 3 * k.1.size) (t.kids.zipIdx) s fun k hk s => by
  split
  ·exact a k.1 (vP hk) _ _
  ·exact a k.1 (vP hk) _ _
 rw [LN] at g2
 exact g2
theorem aFl (t : T) (d : Ks t) (c : t.size ≤ 2000) (e : ∀ k, k.size < t.size → (k ∈ t.kids ∨ k ∈ (dM t 1).kids) → NGs N k) : NGs (zS N fu) t := by
 intro w s
 have h0 := bA t
 have b : ∀ k ∈ t.kids, k.size < t.size := fun k hk => by
  have : k.size ≤ szs t.kids := T.eF (List.mem_map.2 ⟨k, hk, rfl⟩)
  omega
 have a : ∀ k ∈ t.kids, NGs N k := fun k hk => e k (b k hk) (.inl hk)
 unfold zS
 split
 ·exact (ZX t w s).mono (by omega)
 split
 ·rename_i h4
  exact aI4 t d h4 c (fun k hk => e k (by
   rcases hk with hk | hk
   ·exact b k hk
   ·have h1 : k.size ≤ szs (dM t 1).kids := T.eF (List.mem_map.2 ⟨k, hk, rfl⟩)
    have h2 := bA (dM t 1)
    have h3 := sK t 1
    omega) hk) _ _
 split
 ·have h1 := iQ t.kids true []
  rw [bJ] at h1
  exact ((tS s (by omega)).trans (rE _ a _ _)).mono (by omega)
 split
 ·rename_i f
  exact XE t (d.kc.one (by omega)) c a _ _
 split
 ·exact aFm t c a _ _
 split
 ·have h1 := nA 5 (bD (dM t 0)) []
  have h2 := kH (dM t 0)
  have h3 := sK t 0
  rw [bJ] at h1
  exact ((tS s (by omega)).trans (rE _ a _ _)).mono (by omega)
 split
 ·rename_i h3
  exact aFn t (d.dec h3) a _ _
 split
 ·split
  ·exact (ZX _ w s).mono (by omega)
  ·exact (rE _ a _ _).mono (by omega)
 ·exact (aCo t a _ _).mono (by omega)
end
theorem IW (fu : Nat) : ∀ (f : Nat) (t : T), eK qS t → t.size ≤ 2000 → NGs (nbS fu f) t
 | 0, t, _, _ => fun _ s => (GrS.refl s).mono (by omega)
 | f + 1, t, b, a => aFl t b.here.1 a fun k hk hm => IW fu f k (by
     rcases hm with hm | hm
     ·exact b.kid hm
     ·by_cases h : ∃ k1, t.kids[1]? = some k1
      ·obtain ⟨k1, h1⟩ := h
       rw [iV h1] at hm
       exact (b.kid (aB h1)).kid hm
      ·have h1 : t.kids[1]? = none := by
        cases h2 : t.kids[1]? with
        | none => rfl
        | some k1 => exact absurd ⟨k1, h2⟩ h
       unfold dM at hm
       rw [h1] at hm
       exact absurd (show k ∈ ([] : List T) from hm) (by simp)) (by omega)
end
section
open Go.RowKit Go.Vcg Go.MapKept
attribute [local irreducible] anI FB fZ G GC GQ GA eN Calls IntKind.wrap Int.decLt Int.decLe
theorem DI (t : T) (u : Value) (hu : u.oneCell' = true) (k : Int) (w : World) (μ : Mem) (hμ : MOk μ w) : aV 63 #[.agg (aY t u).toArray, .int .i64 k] w (.bool (jG t k)) := by
 have hb : jG t k = (decide (t.op = 4) && decide (anI t.n k ≠ 0)) := rfl
 refine aE (args := [.agg (aY t u).toArray, .int .i64 k]) Tryz.func63 rfl Tryz.ntmps63 (by simp) hμ ?_
 try repeat' (first | refine KO ?_ | (refine KV (b := by ((with_reducible apply aDm); exact rfl; exact rfl)) (c := ?_)) | refine KZ ?_ | refine NB fun b => ?_ | (refine KB ?_ ?_ <;> intro a))
 all_goals refine aJ rfl rfl (congrArg _ ?_)
 all_goals rw [hb]
 all_goals (simp_all; done)
theorem NR {x : ByteArray} {k : Int} {l : List Bd} {j : Nat} {y : Bd} (h : l[j]? = some y) (hb : ∀ i z, i < j → l[i]? = some z → z.name ≠ x) : jN x k l = if y.name = x then (if k = 3 then l.set j { y with kind := k } else l) else l.take (j + 1) ++ jN x k (l.drop (j + 1)) := by
 induction l generalizing j with
 | nil => simp at h
 | cons z r ih =>
   cases j with
   | zero =>
     cases h
     conv => lhs; unfold jN
     split
     ·split <;> rfl
     ·rfl
   | succ j =>
     have b := hb 0 z (by omega) rfl
     conv => lhs; unfold jN
     rw [if_neg b, ih (by simpa using h) (fun i z' hi a => hb (i + 1) z' (by omega) (by simpa using a))]
     split
     ·split <;> rfl
     ·rfl
theorem EG {x : ByteArray} {k : Int} : ∀ {l : List Bd}, (∀ (i : Nat) (z : Bd), l[i]? = some z → z.name ≠ x) → jN x k l = l ++ [⟨x, k, false, 0⟩]
 | [], _ => rfl
 | z :: r, h => by
   unfold jN
   rw [if_neg (h 0 z rfl), EG (fun i z a => h (i + 1) z (by simpa using a))]
   rfl
theorem DA (l : List Bd) (lv : Value) (x : ByteArray) (k : Int) (μ : Mem) (hl : l.length ≤ 10000000) :
 RC 64 [lv, .string x, .int .i64 k] lv l (jN x k l) μ := by
 intro w hμ hO
 have f := dJ hO.diff
 have q : ∀ x : Bd, (jF x).length = 4 := fun _ => rfl
 generalize e : jN x k l = l'
 have u := JE l
 refine cC (args := [lv, .string x, .int .i64 k]) Tryz.func64 rfl Tryz.ntmps64 (by simp) hμ hO ?_
 refine fW 0 rfl ?_
 rintro A c rfl t
 try repeat' (refine KZ ?_)
 refine bW (ι := Nat) (fun j => j ≤ l.length ∧ ∀ i z, i < j → l[i]? = some z → z.name ≠ x) (fun j => l.length - j) (fun _ => μ) (fun j => [(10, .int .i64 (j : Int)), (9, .int .i64 (l.length : Int)), (0, .slice A l.length c), (1, .string x), (2, .int .i64 k)]) (fun _ => [lH (.slice A l.length c) l]) 0 ⟨aI _, fun i z h => absurd h (by omega)⟩ (fun a w hs => hs.sel PU (eW _)) ?_
 rintro j ⟨hj, hb⟩
 by_cases hlt : j < l.length
 ·obtain ⟨y, r⟩ : ∃ y, l[j]? = some y := ⟨_, aA hlt⟩
  rcases t.form with ⟨-, h0, -⟩ | ⟨g4, rfl⟩
  ·exfalso; omega
  have d := NR (k := k) r hb
  have o : (l.flatMap jF)[j * 4 + 0]? = some (.string y.name) := by rw [kR q l j 0 _ r (by omega)]; rfl
  by_cases g : y.name = x
  ·rw [if_pos g] at d
   by_cases hk : k = 3
   ·rw [if_pos hk] at d
    try repeat' (first | refine KO ?_ | ((with_reducible apply kW 0); (iterate 7 exact rfl); (rw [u]; omega); (dsimp only [fD])) | (refine KV (b := by first | exact U1 j | ((with_reducible apply eQ 0); (iterate 3 exact rfl); exact o)) (c := ?_)) | refine KZ ?_)
    all_goals refine gC (n' := l'.length) (xs' := l'.flatMap jF) 0 rfl (by rw [← e, d, fH]) (by rw [← e, d]; exact nT q (vs := [.int .i64 k]) (k := 1) (n := 1) (by omega) l j _ r rfl) ?_
    all_goals exact nC f rfl (cN rfl) rfl rfl
   ·rw [if_neg hk] at d
    try repeat' (first | refine KO ?_ | (refine KV (b := by first | exact U1 j | ((with_reducible apply eQ 0); (iterate 3 exact rfl); exact o)) (c := ?_)) | refine KZ ?_)
    all_goals exact nC f rfl (cN rfl) rfl (d.symm.trans e)
  ·rw [if_neg g] at d
   try repeat' (first | refine KO ?_ | (refine KV (b := by first | exact U1 j | ((with_reducible apply eQ 0); (iterate 3 exact rfl); exact o)) (c := ?_)) | refine KZ ?_)
   all_goals exact cP (j + 1) ⟨by omega, fun i z hi p => by
    rcases cY i j with h1 | h1
    ·exact hb i z h1 p
    ·obtain rfl : i = j := by omega
     rw [r] at p
     cases p
     exact g⟩ (by omega) rfl PU (eW _)
 ·have d := EG (x := x) (k := k) (l := l) (fun i z p => hb i z (by have := (List.getElem?_eq_some_iff.1 p).1; omega) p)
  try repeat' (first | refine KZ ?_ | (((with_reducible apply oZ); (iterate 3 exact rfl); (repeat first | with_reducible exact fE | with_reducible apply fV); (iterate 6 exact rfl); (((with_reducible apply jS); exact rfl; (repeat with_reducible exact fO); exact rfl)); exact rfl; exact gB (by (repeat first | with_reducible exact fS | ((with_reducible apply eY); exact rfl))); omega; omega; intro v)) | refine NB fun b => ?_)
  all_goals refine gL (L' := [_]) (dR (.refl _) (.nil _)) ?_
  all_goals refine gC (n' := l'.length) (xs' := l'.flatMap jF) 0 rfl (by rw [← e, d]; simp) (by rw [← e, d]; simp) ?_
  all_goals exact nC f rfl (cN rfl) rfl rfl
end
section
open Go.RowKit Go.Vcg Ou
theorem aH4 {μ : Mem} {A : Option Addr} {n : Nat} {l : List ByteArray} (h : Sl lV 1 μ A n l) : Sl XT 1 μ A n (l.map bl) := by
 refine ⟨by rw [aH]; exact h.1, fun d => ?_⟩
 obtain ⟨a, e, f⟩ := h.2 d
 refine ⟨a, e, fun i x b => ?_⟩
 rw [aN] at b
 cases c : l[i]? with
 | none => rw [c] at b; cases b
 | some y =>
   rw [c] at b
   cases b
   have h2 := f i y c
   have e2 : XT (bl y) = lV y := by
    show [Value.string (ofB (bl y))] = _
    rw [WJ]
   rw [e2]
   exact h2
theorem OQ (s : ByteArray) (l : List ByteArray) : oQ s (l.map bl) = l.contains s := by
 induction l with
 | nil => rfl
 | cons y r ih =>
   unfold oQ tE at ih ⊢
   simp only [aO, jK, id_eq, lY] at ih ⊢
   rw [ih]
   have : (⟨(bl y).toArray⟩ : ByteArray) = y := WJ y
   rw [YM, this]
structure PB (p : EP) (n : Nat) : Prop where
 ne : 0 < p.regs.length
 regs : p.regs.length + n ≤ 90000
 labels : p.labels.length + n ≤ 90000
 loops : p.loops.length + p.mine.length ≤ p.labels.length
def SB (s : ES) (n : Nat) : Prop := s.regs + AK s.names + 2 * n ≤ 900000
theorem SB.bad {s : ES} {n : Nat} (h : SB s n) (c : Bool) (a e : Int) : SB (jC c a e s) n := by
 unfold SB at h ⊢
 rw [wB, aDa]
 exact h
theorem SB.gr {F : ByteArray → Prop} {s s' : ES} {n m : Nat} (h : SB s (n + m)) (hg : Gr F (2 * n) s s') : SB s' m := by
 unfold SB at h ⊢
 have := hg.wt
 omega
theorem SB.mono {s : ES} {n m : Nat} (h : SB s n) (hm : m ≤ n) : SB s m := by unfold SB at h ⊢; omega
theorem PB.mono {p : EP} {n m : Nat} (h : PB p n) (hm : m ≤ n) : PB p m := ⟨h.ne, by have := h.regs; omega, by have := h.labels; omega, h.loops⟩
def NCk (N : T → EP → ES → ES) (k : T) : Prop := ∀ (xb mb : Nat) (u pv : Value) (p : EP) (s : ES) (μ : Mem), KR μ k.kids u → PV μ p pv → PB p k.size → SB s k.size → tG μ →
 CEs 71 [.pointer (some ⟨xb, 0, none⟩), .agg (aY k u).toArray, pv] xb mb s (N k p s) μ
def BCk (B : T → EP → ED → ES → ES) (k : T) : Prop := ∀ (xb mb : Nat) (u pv dv : Value) (p : EP) (d : ED) (s : ES) (μ : Mem), KR μ k.kids u → PV μ p pv → IsV μ dv d.ins → d.ins.length ≤ 100000 → PB p k.size → SB s k.size → tG μ →
 CEs 101 [.pointer (some ⟨xb, 0, none⟩), .agg (aY k u).toArray, pv, .agg (pX (d, dv)).toArray] xb mb s (B k p d s) μ
abbrev FF : ByteArray → Prop := fun _ => False
def NG (N : T → EP → ES → ES) (k : T) : Prop := ∀ (p : EP) (s : ES), Gr FF (2 * k.size) s (N k p s)
def BG (B : T → EP → ED → ES → ES) (k : T) : Prop := ∀ (p : EP) (d : ED) (s : ES), Gr FF (2 * k.size) s (B k p d s)
theorem sL {α : Type} (g : ES → α → ES) (l : List α) (s : ES) {i : Nat} {k : α} (h : l[i]? = some k) : (l.take (i + 1)).foldl g s = g ((l.take i).foldl g s) k := by
 rw [bQ, gV, h]
 rfl
theorem jO {l : List T} {i : Nat} {k : T} (h : l[i]? = some k) : szs (l.take i) + k.size ≤ szs l := by
 obtain ⟨h1, h2⟩ := List.getElem?_eq_some_iff.1 h
 have e : szs l = szs (l.take i) + szs (l.drop i) := by rw [← BR, dD]
 rw [dT h1, cO, h2] at e
 omega
attribute [local irreducible] wdL anI mP mkD G GC GQ GA eN Calls IntKind.wrap Int.decLt Int.decLe
theorem JP (s : ByteArray) (l : List ByteArray) (v : Value) (w : World) (μ : Mem) (hμ : MOk μ w) (hv : SsV μ v l) (hn : l.length ≤ 100000) :
 aV 107 #[v, .string s] w (.bool (l.contains s)) := by
 obtain ⟨A, c, rfl, a, -⟩ := hv
 rw [← OQ]
 exact yD s (l.map bl) A l.length c w μ hμ (aH4 a) hn
theorem kJ (N : T → EP → ES → ES) (l : List T) (lv pv : Value) (p : EP) (s : ES) (μ : Mem) (xb mb : Nat) (hN : ∀ k ∈ l, NCk N k ∧ NG N k) (hk : KR μ l lv) (hp : PV μ p pv) (hB : ∀ k ∈ l, PB p k.size) (hS : SB s (szs l)) (hl : l.length ≤ 100000) (hm : tG μ) :
 CEs 48 [.pointer (some ⟨xb, 0, none⟩), lv, pv] xb mb s (oT N l p s) μ := by
 intro w fs hμ e hO
 have v := dJ hO.diff
 have af := hp
 obtain ⟨r, lb, lo, mi, rfl, ae, o, j, h⟩ := hp
 have o1 := ae.one
 have o2 := o.one
 have o3 := j.one
 have o4 := h.one
 obtain ⟨A, c, rfl, hcap, u⟩ := hk.form
 refine cC (args := [.pointer (some ⟨xb, 0, none⟩), .slice A l.length c, .agg (hZ p r lb lo mi).toArray]) Tryz.func48 rfl Tryz.ntmps48 (by simp) hμ hO ?_
 try repeat' (first | refine KZ ?_ | refine NB fun b => ?_)
 obtain ⟨bp, z⟩ : ∃ y, y = b := ⟨_, rfl⟩
 rw [← z]
 clear z
 refine bW (ι := Nat × Mem × List FR) (fun q => q.1 ≤ l.length ∧ MLe μ q.2.1 ∧ ER q.2.1 q.2.2 (oT N (l.take q.1) p s)) (fun q => l.length - q.1) (fun q => q.2.1) (fun q => [(10, .int .i64 (q.1 : Int)), (9, .int .i64 (l.length : Int)), (8, .slice A l.length c), (5, .pointer (some ⟨bp, 0, none⟩)), (0, .pointer (some ⟨xb, 0, none⟩))]) (fun q => .inl ⟨bp, 101, 12, idx 0 (hZ p r lb lo mi)⟩ :: EB xb mb (oT N (l.take q.1) p s) q.2.2) (0, μ, fs) ⟨aI _, MLe.refl _, e⟩ (fun a w hs => hs.sel PU (fL _)) ?_
 rintro ⟨i, μ0, fs0⟩ ⟨hi, hle, e⟩
 dsimp only at hi hle e ⊢
 by_cases hlt : i < l.length
 ·obtain ⟨k, d⟩ : ∃ k, l[i]? = some k := ⟨_, aA hlt⟩
  obtain ⟨ad, x, rfl, ai, an, aj⟩ := u i k d
  have ah := ai.mono hle
  have f := aB d
  obtain ⟨ag, -⟩ := hN k f
  have aa := jO d
  have al := xN (F := FF) (l.take i) (fun k hk => (hN k (aZ hk)).2) p s
  have ab := SB.gr (hS.mono aa) al
  have g : N k p (oT N (l.take i) p s) = oT N (l.take (i + 1)) p s := (sL (fun s k => N k p s) l s d).symm
  try repeat' (first | refine KO ?_ | (refine CF 71 ?_; refine iR 2 rfl rfl rfl EN rfl e (ag xb mb _ _ p _ _ (aj.mono hle) (af.mono hle) (hB k f) ab (hm.mono hle)) ?_; (intro v1 μ1 i1 t e); (dsimp only [aL, aP])) | (refine KV (b := by first | exact U1 i | exact U4 ah) (c := ?_)) | refine KZ ?_ | refine NB fun b => ?_)
  rw [g] at e ⊢
  exact cP (i + 1, μ1, i1) ⟨by dsimp only; omega, hle.trans t, e⟩ (by dsimp only; omega) rfl PU (dR (.refl _) (bS _ (fL _)))
 ·have ak : i = l.length := by omega
  subst ak
  rw [aG (aD _)] at e ⊢
  try repeat' (refine KZ ?_)
  all_goals exact gI 1 fs0 (by exact .inr rfl) v rfl rfl rfl e
theorem xZ (N : T → EP → ES → ES) (t : T) (x : NCk N t) (u pv : Value) (p : EP) (s : ES) (μ : Mem) (xb mb : Nat) (hk : KR μ t.kids u) (f : PV μ p pv) (y : PB p t.size) (v : SB s t.size) (hm : tG μ) :
 CEs 104 [.pointer (some ⟨xb, 0, none⟩), .agg (aY t u).toArray, pv] xb mb s (nW N t p s) μ := by
 intro w fs hμ k o
 have j := dJ o.diff
 have e := f
 obtain ⟨r, lb, lo, mi, rfl, l, i, h, g⟩ := f
 have o1 := l.one
 have o2 := i.one
 have o3 := h.one
 have o4 := g.one
 have ou := hk.one
 generalize d : nW N t p s = s'
 unfold nW at d
 have c := fun (w : World) (μc : Mem) (hw : MOk μc w) => UP t.n 1 w μc hw
 generalize pY t.n 1 = b1 at c d
 refine cC (args := [.pointer (some ⟨xb, 0, none⟩), .agg (aY t u).toArray, .agg (hZ p r lb lo mi).toArray]) Tryz.func104 rfl Tryz.ntmps104 (by simp) hμ o ?_
 try repeat' (first | refine KZ ?_ | refine NB fun b => ?_)
 refine aT 26 _ (by kernel_rfl) rfl (dG (aC aQ)) ?_
 all_goals (refine DD 0 ?_; refine DD 1 ?_; refine DD 2 ?_; refine DD 3 ?_; refine DD 4 ?_; refine DD 5 ?_)
 all_goals (try (refine D7 6 ?_; (repeat' (refine KB ?_ ?_ <;> intro f))))
 all_goals (refine DD 6 ?_; refine DD 7 ?_)
 all_goals (first | (refine D3 8 ?_; refine D5 ?_; refine K2 137 (fun w μc hw q => c w μc hw) ?_; refine D9 ?_) | refine D3 8 (D6 ?_))
 all_goals (refine DD 9 ?_; refine DD 10 ?_)
 all_goals (try (refine D7 11 ?_; (repeat' (refine KB ?_ ?_ <;> intro f))))
 all_goals (refine DD 11 ?_; refine DD 12 ?_; refine DD 13 ?_; refine DD 14 ?_)
 all_goals (try (refine D7 15 ?_; (repeat' (first | refine KO ?_ | (refine KB ?_ ?_ <;> intro f)))))
 all_goals (refine DD 15 ?_; refine DD 16 ?_; refine DD 17 ?_; refine DD 18 ?_)
 all_goals (try (refine D7 19 ?_; (repeat' (refine KB ?_ ?_ <;> intro f))))
 all_goals (refine DD 19 ?_; refine DD 20 ?_; refine DD 21 ?_; refine DD 22 ?_; refine DD 23 ?_; refine DD 24 ?_)
 all_goals (refine D3 25 ?_; refine D5 ?_; (refine CF 106 ?_; refine iR 2 rfl rfl rfl EN rfl k (pU xb mb t _ ou _ _ _ _) ?_; intro v1 μ1 i1 a k; dsimp only [aL, aP]; have hk := hk.mono a; have e := e.mono a; have hm := hm.mono a); refine D9 ?_)
 all_goals refine D8 ?_
 all_goals try repeat' (first | refine KO ?_ | (refine CF 71 ?_; refine iR 2 rfl rfl rfl EN rfl k (x xb mb _ _ p _ _ hk e y (v.bad _ _ _) hm) ?_; intro v1 μ1 i1 a k; dsimp only [aL, aP]) | refine KZ ?_)
 all_goals exact gI 2 i1 (by exact .inr rfl) j rfl rfl (by rw [← d]; simp_all) k
theorem xX (N : T → EP → ES → ES) (t : T) (hN : NCk N t) (u pv mv : Value) (p : EP) (mine : List ByteArray) (s : ES) (μ : Mem) (xb mb : Nat) (hk : KR μ t.kids u) (hp : PV μ p pv) (y : SsV μ mv mine) (g : PB { p with loops := p.loops ++ mine } t.size) (hS : SB s t.size) (hm : tG μ) :
 CEs 141 [.pointer (some ⟨xb, 0, none⟩), .agg (aY t u).toArray, pv, mv] xb mb s (DM N t p mine s) μ := by
 intro w fs hμ o hO
 have l := dJ hO.diff
 have ae := hp
 obtain ⟨r, lb, lo, mi, rfl, i, f, e, d⟩ := hp
 have o1 := i.one
 have o2 := f.one
 have o3 := e.one
 have o4 := d.one
 have ou := hk.one
 obtain ⟨A, c, rfl, aa, af⟩ := y
 have j := g.loops
 have z := g.labels
 dsimp only at j z
 rw [aK] at j
 have e1 : (p.loops.flatMap lV).length = p.loops.length := MX p.loops
 have e2 := IF p.loops
 have e3 : (mine.flatMap lV).length = mine.length := MX mine
 have e4 := IF mine
 refine cC (args := [.pointer (some ⟨xb, 0, none⟩), .agg (aY t u).toArray, .agg (hZ p r lb lo mi).toArray, .slice A mine.length c]) Tryz.func141 rfl Tryz.ntmps141 (by simp) hμ hO ?_
 try repeat' (first | ((with_reducible show GC _ _ (Code.region 3 _ _) _ _ _ _); (apply dF)) | refine KZ ?_ | ((with_reducible apply F3 108); exact rfl; exact EN; exact fun w μc hw q => zF w μc hw p.loops lo (e.mono q.le) (by omega); intro vr) | (refine AX (S := by (with_reducible apply OE); exact rfl; exact aa; simp) (A := by rw [e3, lS]) (O := e4) (k := fun v => ?_); (with_reducible apply eU 0); exact rfl; rintro A1 c1 rfl ab) | refine NB fun b => ?_)
 refine gcs (oY rfl ?_)
 intro μ4 a h
 have hv := SsV.mM (xs := p.loops ++ mine) h (by simp) (by rw [cG])
 have x : PV μ4 { p with loop := true, loops := p.loops ++ mine } (.agg (hZ { p with loop := true, loops := p.loops ++ mine } r lb (.slice A1 (p.loops.length + mine.length) c1) mi).toArray) := ⟨_, _, _, _, rfl, i.mono a, f.mono a, hv, d.mono a⟩
 have o := o.mono a
 try repeat' (first | refine KO ?_ | (refine CF 104 ?_; refine iR 2 rfl rfl rfl EN rfl o (xZ N t hN _ _ { p with loop := true, loops := p.loops ++ mine } _ _ xb mb (hk.mono a) x ⟨g.ne, g.regs, g.labels, g.loops⟩ hS (hm.mono a)) ?_; intro v1 μ1 i1 ad o; dsimp only [aL, aP]) | refine KZ ?_)
 exact gI 2 i1 (by exact .inr rfl) l rfl rfl rfl o
end
section
open Go.RowKit Go.Vcg Ou
theorem KG (xb mb : Nat) (t : T) (u : Value) (hu : u.oneCell' = true) (c c' : Bool) (h : c = c') (e : Int) (s : ES) (μ : Mem) :
 CEs 106 [.pointer (some ⟨xb, 0, none⟩), .agg (aY t u).toArray, .int .i64 e, .bool c] xb mb s (jC c' t.at' e s) μ := by
 subst h
 exact pU xb mb t u hu c e s μ
theorem iC {t : T} {i : Nat} (h : i < t.kids.length) : t.kids[i]? = some (dC t i) := by
 unfold dC
 rw [aA h]
 rfl
theorem yC (s : ByteArray) (l : List ByteArray) (b : Bool) (hb : l.contains s = b) (v : Value) (w : World) (μ : Mem) (hμ : MOk μ w) (hv : SsV μ v l) (hn : l.length ≤ 100000) :
 aV 107 #[v, .string s] w (.bool b) := by
 subst hb
 exact JP s l v w μ hμ hv hn
attribute [local irreducible] wdL anI mP mkD G GC GQ GA eN Calls IntKind.wrap Int.decLt Int.decLe
theorem XV (t : T) (hs : t.s.size ≤ 100000) (u pv : Value) (p : EP) (s : ES) (μ : Mem) (xb mb : Nat) (ou : u.oneCell' = true) (k : PV μ p pv) (hl : p.labels.length ≤ 100000) (o : p.loops.length ≤ 100000) (hm : tG μ) :
 CEs 144 [.pointer (some ⟨xb, 0, none⟩), .agg (aY t u).toArray, pv] xb mb s (MM wdF t p s) μ := by
 intro w fs hμ f q
 have g := dJ q.diff
 have i := k
 obtain ⟨r, lb, lo, mi, rfl, l, d, c, j⟩ := k
 have o1 := l.one
 have o2 := d.one
 have o3 := c.one
 have o4 := j.one
 generalize e : MM wdF t p s = s'
 unfold MM at e
 refine cC (args := [.pointer (some ⟨xb, 0, none⟩), .agg (aY t u).toArray, .agg (hZ p r lb lo mi).toArray]) Tryz.func144 rfl Tryz.ntmps144 (by simp) hμ q ?_
 by_cases h0 : t.s = ⟨#[]⟩
 ·rw [if_pos h0] at e
  try repeat' (first | refine KO ?_ | (refine CF 106 ?_; refine iR 2 rfl rfl rfl EN rfl f (pU xb mb t _ ou _ _ _ _) ?_; intro v1 μ1 i1 a f; dsimp only [aL, aP]) | refine KZ ?_ | refine NB fun b => ?_ | (refine KB ?_ ?_ <;> intro k))
  all_goals exact gI 2 i1 (by exact .inl rfl) g rfl rfl (by rw [← e]; simp_all) f
 rw [if_neg h0] at e
 cases x : p.labels.contains t.s
 all_goals cases v : p.loops.contains t.s
 all_goals rw [x, v] at e
 all_goals try repeat' (first | refine KO ?_ | (refine CF 105 ?_; refine iR 2 rfl rfl rfl EN rfl f (qV xb mb t _ ou _ (by omega) p _ _ _ (i) hm) ?_; intro v1 μ1 i1 a f; dsimp only [aL, aP]; have i := i.mono a; have d := d.mono a; have c := c.mono a; have hm := hm.mono a) | refine KZ ?_ | refine NB fun b => ?_)
 all_goals
  refine aT 10 _ (by kernel_rfl) rfl (aC (aC aQ)) ?_
  all_goals (refine DD 0 ?_; refine DD 1 ?_; refine DD 2 ?_; refine DD 3 ?_; refine DD 4 ?_; refine DD 5 ?_; refine DD 6 ?_)
  all_goals (refine D3 7 ?_; refine D5 ?_; (((with_reducible apply C1); exact rfl; exact EN; exact fun w μc hw h => yC t.s p.labels _ x lb w μc hw (d.mono h.le) hl)); refine D9 ?_)
  all_goals refine DD 8 ?_
  all_goals (refine D3 9 ?_; refine D5 ?_; (refine CF 106 ?_; refine iR 2 rfl rfl rfl EN rfl f (pU xb mb t _ ou _ _ _ _) ?_; intro v1 μ1 i1 a f; dsimp only [aL, aP]; have c := c.mono a); refine D9 ?_)
  all_goals refine D8 ?_
 all_goals try repeat' (refine KZ ?_)
 all_goals
  refine aT 15 _ (by kernel_rfl) rfl (aC (aC aQ)) ?_
  all_goals (refine DD 0 ?_; refine DD 1 ?_; refine DD 2 ?_; refine DD 3 ?_; refine DD 4 ?_; refine DD 5 ?_)
  all_goals (try (refine D7 6 ?_; (repeat' (refine KB ?_ ?_ <;> intro k))))
  all_goals (refine DD 6 ?_; refine DD 7 ?_; refine DD 8 ?_; refine DD 9 ?_; refine DD 10 ?_)
  all_goals (first | (refine D3 11 ?_; refine D5 ?_; (((with_reducible apply C1); exact rfl; exact EN; exact fun w μc hw h => yC t.s p.loops _ v lo w μc hw (c.mono h.le) o)); refine D9 ?_) | refine D3 11 (D6 ?_))
  all_goals (refine DD 12 ?_; refine DD 13 ?_)
  all_goals (refine D3 14 ?_; refine D5 ?_; (refine CF 106 ?_; refine iR 2 rfl rfl rfl EN rfl f (pU xb mb t _ ou _ _ _ _) ?_; intro v1 μ1 i1 a f; dsimp only [aL, aP]); refine D9 ?_)
  all_goals refine D8 ?_
 all_goals exact gI 2 i1 (by exact .inr rfl) g rfl rfl (by rw [← e]; simp_all) f
theorem XX (N : T → EP → ES → ES) (B : T → EP → ED → ES → ES) (t : T) (hq : Kc t) (hs : t.s.size ≤ 100000) (bm : t.size ≤ 90000) (hN : ∀ k ∈ t.kids, NCk N k ∧ NG N k) (aj : ∀ k ∈ t.kids, BCk B k ∧ BG B k) : BCk (NN wdF N B) t := by
 intro xb mb u pv dv p d s μ hk hp hd ap hB hS hm
 intro w fs hμ j hO
 have z := dJ hO.diff
 have v := hp
 obtain ⟨r, lb, lo, mi, rfl, bf, a1, az, ay⟩ := hp
 have o1 := bf.one
 have o2 := a1.one
 have o3 := az.one
 have o4 := ay.one
 have ou := hk.one
 have od := hd.one
 have ak := hB
 have bo := hB.regs
 have an := hB.labels
 have ax := bA t
 obtain ⟨A, c, rfl, hcap, aa⟩ := hk.form
 generalize h : NN wdF N B t p d s = s'
 unfold NN at h
 refine cC (args := [.pointer (some ⟨xb, 0, none⟩), .agg (aY t (.slice A t.kids.length c)).toArray, .agg (hZ p r lb lo mi).toArray, .agg (pX (d, dv)).toArray]) Tryz.func101 rfl Tryz.ntmps101 (by simp) hμ hO ?_
 by_cases bc : t.op = 34
 ·rw [if_pos bc] at h
  have bk := rD (F := FF) wdF t t.s p s
  have aw : AK (pG wdF t t.s p s).names ≤ 1000000 := by
   have h9 := bk.wt
   unfold SB at hS
   omega
  try repeat' (first | refine KO ?_ | (refine CF 105 ?_; refine iR 3 rfl rfl rfl EN rfl j (qV xb mb t _ ou _ (by omega) p _ _ _ v hm) ?_; intro v1 μ1 i1 f j; dsimp only [aL, aP]; have hd := hd.mono f) | (refine CF 139 ?_; refine iR 3 rfl rfl rfl EN rfl j (vY xb mb t _ ou t.s d _ _ _ hd ap aw) ?_; intro v1 μ1 i1 f j; dsimp only [aL, aP]) | refine KZ ?_ | refine NB fun b => ?_)
  all_goals exact gI 3 i1 (by exact .inr rfl) z rfl rfl h j
 rw [if_neg bc] at h
 by_cases al : t.op = 51 ∨ t.op = 52
 ·rw [if_pos al] at h
  rcases al with al | al
  all_goals try repeat' (first | refine KO ?_ | (refine CF 106 ?_; refine iR 3 rfl rfl rfl EN rfl j (pU xb mb t _ ou _ _ _ _) ?_; intro v1 μ1 i1 f j; dsimp only [aL, aP]) | refine KZ ?_ | refine NB fun b => ?_)
  all_goals exact gI 3 i1 (by exact .inr rfl) z rfl rfl h j
 rw [if_neg al] at h
 by_cases au : t.op = 63
 ·rw [if_pos au] at h
  have h2 := hq.two (by simp [au])
  obtain ⟨r2, an⟩ := wG h2
  have hz := ax
  rw [an, cO, cO] at hz
  obtain ⟨ad, x0, rfl, ai, a7, ar⟩ := aa 0 _ (iC (by omega))
  obtain ⟨ad', x1, e, ae, a6, af⟩ := aa 1 _ (iC (by omega))
  cases e
  have o := eH (t := t) (i := 0) (by omega)
  have ab := eH (t := t) (i := 1) (by omega)
  have ah := SB.gr (s' := B (dC t 0) p d s) (n := (dC t 0).size) (m := (dC t 1).size) (hS.mono (by omega)) ((aj _ o).2 p d s)
  try repeat' (first | refine KZ ?_ | refine NB fun b => ?_)
  refine aT 8 _ (by kernel_rfl) rfl (aC (aC (aC aQ))) ?_
  all_goals (refine DD 0 ?_; refine D1 1 ?_; refine DD 2 ?_; refine D2 3 rfl (by exact U1 0) ?_; refine D2 4 rfl (by exact U4 ai) ?_; refine DD 5 ?_; refine DD 6 ?_)
  all_goals (refine D3 7 ?_; refine D5 ?_; refine CF 101 ?_; refine iR 3 rfl rfl rfl EN rfl j ((aj _ o).1 xb mb _ _ _ p d s _ ar v hd ap (ak.mono (by omega)) (hS.mono (by omega)) hm) ?_; intro v1 μ1 i1 f j; dsimp only [aL, aP]; have ae := ae.mono f; have af := af.mono f; have v := v.mono f; have hm := hm.mono f; refine D9 ?_)
  all_goals refine D8 ?_
  all_goals try repeat' (refine KZ ?_)
  refine aT 7 _ (by kernel_rfl) rfl (aC (aC (aC aQ))) ?_
  all_goals (refine DD 0 ?_; refine D1 1 ?_; refine DD 2 ?_; refine D2 3 rfl (by exact U1 1) ?_; refine D2 4 rfl (by exact U4 ae) ?_; refine DD 5 ?_)
  all_goals (refine D3 6 ?_; refine D5 ?_; refine CF 71 ?_; refine iR 3 rfl rfl rfl EN rfl j ((hN _ ab).1 xb mb _ _ p _ _ af v (ak.mono (by omega)) ah hm) ?_; intro v1 μ1 i1 f j; dsimp only [aL, aP]; refine D9 ?_)
  all_goals refine D8 ?_
  all_goals try repeat' (refine KZ ?_)
  all_goals exact gI 3 i1 (by exact .inr rfl) z rfl rfl h j
 rw [if_neg au] at h
 by_cases av : t.op = 62
 ·rw [if_pos av] at h
  have h2 := hq.two (by simp [av])
  obtain ⟨r2, an⟩ := wG h2
  have hz := ax
  rw [an, cO, cO] at hz
  obtain ⟨ad, x0, rfl, ai, a7, ar⟩ := aa 0 _ (iC (by omega))
  obtain ⟨ad', x1, e, ae, a6, af⟩ := aa 1 _ (iC (by omega))
  cases e
  have o := eH (t := t) (i := 0) (by omega)
  have ab := eH (t := t) (i := 1) (by omega)
  have ah := SB.gr (s' := N (dC t 0) p s) (n := (dC t 0).size) (m := (dC t 1).size) (hS.mono (by omega)) ((hN _ o).2 p s)
  try repeat' (first | refine KZ ?_ | refine NB fun b => ?_)
  refine aT 7 _ (by kernel_rfl) rfl (aC (aC (aC aQ))) ?_
  all_goals (refine DD 0 ?_; refine D1 1 ?_; refine DD 2 ?_; refine D2 3 rfl (by exact U1 0) ?_; refine D2 4 rfl (by exact U4 ai) ?_; refine DD 5 ?_)
  all_goals (refine D3 6 ?_; refine D5 ?_; refine CF 71 ?_; refine iR 3 rfl rfl rfl EN rfl j ((hN _ o).1 xb mb _ _ p s _ ar v (ak.mono (by omega)) (hS.mono (by omega)) hm) ?_; intro v1 μ1 i1 f j; dsimp only [aL, aP]; have ae := ae.mono f; have af := af.mono f; have v := v.mono f; have hd := hd.mono f; have hm := hm.mono f; refine D9 ?_)
  all_goals refine D8 ?_
  all_goals try repeat' (refine KZ ?_)
  refine aT 8 _ (by kernel_rfl) rfl (aC (aC (aC aQ))) ?_
  all_goals (refine DD 0 ?_; refine D1 1 ?_; refine DD 2 ?_; refine D2 3 rfl (by exact U1 1) ?_; refine D2 4 rfl (by exact U4 ae) ?_; refine DD 5 ?_; refine DD 6 ?_)
  all_goals (refine D3 7 ?_; refine D5 ?_; refine CF 101 ?_; refine iR 3 rfl rfl rfl EN rfl j ((aj _ ab).1 xb mb _ _ _ p d _ _ af v hd ap (ak.mono (by omega)) ah hm) ?_; intro v1 μ1 i1 f j; dsimp only [aL, aP]; refine D9 ?_)
  all_goals refine D8 ?_
  all_goals try repeat' (refine KZ ?_)
  all_goals exact gI 3 i1 (by exact .inr rfl) z rfl rfl h j
 rw [if_neg av] at h
 by_cases ag : t.op = 60 ∨ t.op = 61 ∨ t.op = 64
 rotate_left
 ·rw [if_neg ag] at h
  try repeat' (first | refine KZ ?_ | refine NB fun b => ?_)
  all_goals exact gI 3 fs (by exact .inr rfl) z rfl rfl h j
 rw [if_pos ag] at h
 have hlen : t.kids.length ≤ 100000 := by
  have h9 : ∀ l : List T, l.length ≤ szs l := fun l => by
   induction l with
   | nil => exact aI _
   | cons k r ih =>
     rw [cO, bF]
     have := bA k
     omega
  have := h9 t.kids
  omega
 try repeat' (first | ((with_reducible show GC _ _ (Code.seq (Code.region 1 _ _) _) _ _ _ _); (apply dF)) | refine KZ ?_ | refine NB fun b => ?_)
 rename_i bn bp
 obtain ⟨bd, bb⟩ : ∃ y, y = b := ⟨_, rfl⟩
 rw [← bb]
 clear bb
 refine gcs ?_
 rcases ag with ag | ag | ag
 all_goals try repeat' (refine KZ ?_)
 all_goals try (exfalso; omega)
 all_goals
  refine bW (ι := Nat × Mem × List FR) (fun q => q.1 ≤ t.kids.length ∧ MLe μ q.2.1 ∧ ER q.2.1 q.2.2 ((t.kids.take q.1).foldl (fun s k => B k p d s) s)) (fun q => t.kids.length - q.1) (fun q => q.2.1) (fun q => [(73, .int .i64 (q.1 : Int)), (72, .int .i64 (t.kids.length : Int)), (71, .slice A t.kids.length c), (6, .pointer (some ⟨bp, 0, none⟩)), (7, .pointer (some ⟨bd, 0, none⟩)), (0, .pointer (some ⟨xb, 0, none⟩))]) (fun q => .inl ⟨bd, 131, 4, idx 0 (pX (d, dv))⟩ :: .inl ⟨bp, 101, 12, idx 0 (hZ p r lb lo mi)⟩ :: EB xb mb ((t.kids.take q.1).foldl (fun s k => B k p d s) s) q.2.2) (0, μ, fs) ⟨aI _, MLe.refl _, j⟩ (fun a w hs => hs.sel PU (eV (.cells PU) (eV (.cells PU) (bS _ (fL _))))) ?_
  rintro ⟨i, μ0, fs0⟩ ⟨hi, hle, j⟩
  dsimp only at hi hle j ⊢
  by_cases hlt : i < t.kids.length
  ·obtain ⟨k, ao⟩ : ∃ k, t.kids[i]? = some k := ⟨_, aA hlt⟩
   obtain ⟨ad, x, rfl, ai, bq, bi⟩ := aa i k ao
   have bh := ai.mono hle
   have a8 := aB ao
   obtain ⟨bg, -⟩ := aj k a8
   have hz := jO ao
   have ba := oC (F := FF) (g := fun s k => B k p d s) (c := fun k => 2 * T.size k) (t.kids.take i) s (fun k hk s => (aj k (aZ hk)).2 p d s)
   rw [pM] at ba
   have ah := SB.gr (n := szs (t.kids.take i)) (m := k.size) (hS.mono (by omega)) ba
   have aq : B k p d ((t.kids.take i).foldl (fun s k => B k p d s) s) = (t.kids.take (i + 1)).foldl (fun s k => B k p d s) s := (sL (fun s k => B k p d s) t.kids s ao).symm
   try repeat' (first | refine KO ?_ | (refine CF 101 ?_; refine iR 3 rfl rfl rfl EN rfl j (bg xb mb _ _ _ p d _ _ (bi.mono hle) (v.mono hle) (hd.mono hle) ap (ak.mono (by omega)) ah (hm.mono hle)) ?_; (intro v1 μ1 i1 f j); (dsimp only [aL, aP])) | (refine KV (b := by first | exact U1 i | exact U4 bh) (c := ?_)) | refine KZ ?_ | refine NB fun b => ?_)
   rw [aq] at j ⊢
   exact cP (i + 1, μ1, i1) ⟨by dsimp only; omega, hle.trans f, j⟩ (by dsimp only; omega) rfl PU (dR (.refl _) (dR (.refl _) (bS _ (fL _))))
  ·have bj : i = t.kids.length := by omega
   subst bj
   rw [aG (aD _)] at j ⊢
   try repeat' (refine KZ ?_)
   all_goals exact gI 2 fs0 (by exact .inr rfl) z rfl rfl h j
end
section
open Go.RowKit Go.Vcg Ou
theorem gR : ∀ l : List T, l.length ≤ szs l
 | [] => aI _
 | k :: r => by
   have := gR r
   have := bA k
   rw [cO, bF]
   omega
theorem LM {k : T} (h : 1 ≤ k.kids.length) : (dC k 0).size + szs (k.kids.drop 1) + 1 = k.size := by
 have h2 := bA k
 have h3 := EZ h
 rw [h3, cO] at h2
 omega
def FZ (t k : T) (each : Bool) : Bool := decide (k.kids.length = 1) && !each && (decide (t.n = 2) || decide ((dC k 0).op ≠ 34))
def qE (t : T) : Prop := Kc t ∧ t.s.size ≤ 100000
attribute [local irreducible] wdL anI mP mkD G GC GQ GA eN Calls IntKind.wrap Int.decLt Int.decLe
theorem XO (N : T → EP → ES → ES) (B : T → EP → ED → ES → ES) (t : T) (hq : eK qE t) (h2 : t.op = 2) (bw : t.size ≤ 80000) (hN : ∀ k, eK qE k → k.size < t.size → NCk N k ∧ NG N k) (bg : ∀ k, eK qE k → k.size < t.size → BCk B k ∧ BG B k)
 (xb mb : Nat) (u pv : Value) (p : EP) (each : Bool) (s : ES) (μ : Mem) (hk : KR μ t.kids u) (hp : PV μ p pv) (hB : PB p t.size) (hS : SB s t.size) (hm : tG μ) :
 CEs 98 [.pointer (some ⟨xb, 0, none⟩), .agg (aY t u).toArray, pv, .bool each] xb mb s (LI N B t p each s) μ := by
 intro w fs hμ o hO
 have bc := dJ hO.diff
 have a1 := hp
 obtain ⟨r, lb, lo, mi, rfl, ak, az, ay, ax⟩ := hp
 have o1 := ak.one
 have o2 := az.one
 have o3 := ay.one
 have o4 := ax.one
 have aw := ak
 obtain ⟨Ar, cr, rfl, -, -⟩ := aw
 have ou := hk.one
 have hne := hB.ne
 have b1 := hB.regs
 have bx := bA t
 have hlen := gR t.kids
 have hsub := hq.here.1.sub h2
 obtain ⟨nv, a7, al⟩ := DU μ p _ a1 hne (by omega)
 have a6 := a7
 obtain ⟨An, cn, rfl, -, -⟩ := a6
 obtain ⟨A, c, rfl, hcap, ba⟩ := hk.form
 generalize ae : LI N B t p each s = s'
 unfold LI at ae
 dsimp only at ae
 have aj : (if t.n ≠ 0 then (⟨true, oF p, 0, false⟩ : ED) else ⟨false, p.regs, 0, false⟩).ins.length ≤ 100000 := by
  split
  ·show (oF p).length ≤ 100000
   unfold oF
   rw [cQ]
   omega
  ·show p.regs.length ≤ 100000
   omega
 generalize ag : (if t.n ≠ 0 then (⟨true, oF p, 0, false⟩ : ED) else ⟨false, p.regs, 0, false⟩) = dd at ae aj
 refine cC (args := [.pointer (some ⟨xb, 0, none⟩), .agg (aY t (.slice A t.kids.length c)).toArray, .agg (hZ p (.slice Ar p.regs.length cr) lb lo mi).toArray, .bool each]) Tryz.func98 rfl Tryz.ntmps98 (by simp) hμ hO ?_
 try repeat' (first | ((with_reducible show GC _ _ (Code.seq (Code.seq (Code.region 2 _ _) _) _) _ _ _ _); (apply dF)) | refine KZ ?_ | refine NB fun b => ?_)
 rename_i bn bp
 obtain ⟨bd, bf⟩ : ∃ y, y = b := ⟨_, rfl⟩
 rw [← bf]
 clear bf
 refine gcs (iB (ι := Value) (fun dv => IsV μ dv dd.ins) (fun _ => μ) (fun _ => [(8, .pointer (some ⟨bd, 0, none⟩)), (6, .pointer (some ⟨bp, 0, none⟩)), (5, .pointer (some ⟨bn, 0, none⟩)), (3, .bool each), (0, .pointer (some ⟨xb, 0, none⟩))]) (fun dv => .inl ⟨bd, 131, 4, idx 0 (pX (dd, dv))⟩ :: .inl ⟨bp, 101, 12, idx 0 (hZ p (.slice Ar p.regs.length cr) lb lo mi)⟩ :: .inl ⟨bn, 24, 6, idx 0 (aY t (.slice A t.kids.length c))⟩ :: EB xb mb s fs) ?_ ?_)
 ·by_cases hn : t.n = 0
  ·rw [if_neg (fun h => h hn)] at ag
   subst ag
   try repeat' (refine KZ ?_)
   all_goals exact eX _ ak rfl PU (eV (.cells PU) (eV (.cells PU) (eV (.cells PU) (fL _))))
  ·rw [if_pos hn] at ag
   subst ag
   try repeat' (first | refine KO ?_ | refine K2 102 al ?_ | refine KZ ?_)
   all_goals exact eX _ a7 rfl PU (eV (.cells PU) (eV (.cells PU) (eV (.cells PU) (fL _))))
 intro dv bb
 have odv := bb.one
 try repeat' (refine KZ ?_)
 refine bW (ι := Nat × Mem × List FR) (fun q => q.1 ≤ t.kids.length ∧ MLe μ q.2.1 ∧ ER q.2.1 q.2.2 ((t.kids.take q.1).foldl (fun s k => oT N (k.kids.drop 1) p (B (dC k 0) p dd (jC (FZ t k each) k.at' 36 s))) s)) (fun q => t.kids.length - q.1) (fun q => q.2.1) (fun q => [(24, .int .i64 (q.1 : Int)), (23, .int .i64 (t.kids.length : Int)), (22, .slice A t.kids.length c), (8, .pointer (some ⟨bd, 0, none⟩)), (6, .pointer (some ⟨bp, 0, none⟩)), (5, .pointer (some ⟨bn, 0, none⟩)), (3, .bool each), (0, .pointer (some ⟨xb, 0, none⟩))]) (fun q => .inl ⟨bd, 131, 4, idx 0 (pX (dd, dv))⟩ :: .inl ⟨bp, 101, 12, idx 0 (hZ p (.slice Ar p.regs.length cr) lb lo mi)⟩ :: .inl ⟨bn, 24, 6, idx 0 (aY t (.slice A t.kids.length c))⟩ :: EB xb mb ((t.kids.take q.1).foldl (fun s k => oT N (k.kids.drop 1) p (B (dC k 0) p dd (jC (FZ t k each) k.at' 36 s))) s) q.2.2) (0, μ, fs) ⟨aI _, MLe.refl _, o⟩ (fun a w hs => hs.sel PU (fL _)) ?_
 rintro ⟨i, μ0, fs0⟩ ⟨hi, hle, o⟩
 dsimp only at hi hle o ⊢
 by_cases hlt : i < t.kids.length
 ·obtain ⟨k, af⟩ : ∃ k, t.kids[i]? = some k := ⟨_, aA hlt⟩
  obtain ⟨ad, x, rfl, bk, bi, a8⟩ := ba i k af
  have bj := bk.mono hle
  have ai := aB af
  have ab := hq.kid ai
  have ao := hsub k ai
  have bh := LM ao
  have hz := jO af
  have ar := ab.kid (eH (t := k) (i := 0) (by omega))
  obtain ⟨bs, br⟩ := bg _ ar (by omega)
  have aq : ∀ y ∈ k.kids.drop 1, eK qE y ∧ y.size ≤ szs (k.kids.drop 1) := fun y hy => ⟨ab.kid (cD hy), T.eF (List.mem_map.2 ⟨y, hy, rfl⟩)⟩
  have bt := fun y hy => hN y (aq y hy).1 (by have := (aq y hy).2; omega)
  have bo : Gr FF (2 * szs (t.kids.take i)) s ((t.kids.take i).foldl (fun s k => oT N (k.kids.drop 1) p (B (dC k 0) p dd (jC (FZ t k each) k.at' 36 s))) s) := by
   have h9 := oC (F := FF) (g := (fun s k => oT N (k.kids.drop 1) p (B (dC k 0) p dd (jC (FZ t k each) k.at' 36 s)))) (c := fun k => 2 * T.size k) (t.kids.take i) s (fun k hk s => by
    have an := aZ hk
    have ab := hq.kid an
    have ao := hsub k an
    have bh := LM ao
    have bz : k.size ≤ szs t.kids := T.eF (List.mem_map.2 ⟨k, an, rfl⟩)
    have ar := ab.kid (eH (t := k) (i := 0) (by omega))
    exact ((lD _ _ _ _).trans ((bg _ ar (by omega)).2 _ _ _) (aD _)).trans (xN _ (fun x hx => (hN x (ab.kid (cD hx)) (by
     have : x.size ≤ szs (k.kids.drop 1) := T.eF (List.mem_map.2 ⟨x, hx, rfl⟩)
     omega)).2) _ _) (by omega))
   rwa [pM] at h9
  have av := SB.gr (n := szs (t.kids.take i)) (m := k.size) (hS.mono (by omega)) bo
  have l : (fun s k => oT N (k.kids.drop 1) p (B (dC k 0) p dd (jC (FZ t k each) k.at' 36 s))) ((t.kids.take i).foldl (fun s k => oT N (k.kids.drop 1) p (B (dC k 0) p dd (jC (FZ t k each) k.at' 36 s))) s) k = ((t.kids.take (i + 1)).foldl (fun s k => oT N (k.kids.drop 1) p (B (dC k 0) p dd (jC (FZ t k each) k.at' 36 s))) s) := (sL (fun s k => oT N (k.kids.drop 1) p (B (dC k 0) p dd (jC (FZ t k each) k.at' 36 s))) t.kids s af).symm
  generalize b0 : ((t.kids.take i).foldl (fun s k => oT N (k.kids.drop 1) p (B (dC k 0) p dd (jC (FZ t k each) k.at' 36 s))) s) = si at o av l ⊢
  dsimp only at l
  have ah := (av.mono (m := (dC k 0).size + szs (k.kids.drop 1)) (by omega)).bad (FZ t k each) k.at' 36
  have au := SB.gr ah (br p dd _)
  obtain ⟨A2, c2, rfl, bq, ap⟩ := a8.form
  obtain ⟨ad2, x2, rfl, e, bu, f⟩ := ap 0 _ (iC (by omega))
  have e := e.mono hle
  have f := f.mono hle
  have j := (a8.mono hle).AE (by omega)
  have v := a1.mono hle
  have aa := bb.mono hle
  have z := hm.mono hle
  have b2 : ((k.kids.length : Int) = 1) = (k.kids.length = 1) := propext (by omega)
  try repeat' (first | refine KO ?_ | (refine KV (b := by first | exact U1 i | exact U4 bj) (c := ?_)) | refine KZ ?_ | refine NB fun b => ?_)
  refine aT 24 _ (by kernel_rfl) rfl (aC (aC (aC (aC aQ)))) ?_
  all_goals (refine DD 0 ?_; refine DD 1 ?_; refine D1 2 ?_; refine DD 3 ?_; refine D1 4 ?_; refine D1 5 ?_; refine DD 6 ?_)
  all_goals (try (refine D7 7 ?_; (repeat' (refine KB ?_ ?_ <;> intro hp))))
  all_goals (refine DD 7 ?_; refine DD 8 ?_; refine DD 9 ?_; refine DD 10 ?_)
  all_goals (try (refine D7 11 ?_; (repeat' (first | refine KO ?_ | (refine KB ?_ ?_ <;> intro hp)))))
  all_goals (refine D1 11 ?_; (first | refine D1 12 ?_ | refine DD 12 ?_); refine D1 13 ?_; refine DD 14 ?_)
  all_goals (try (refine D7 15 ?_; (repeat' (refine KB ?_ ?_ <;> intro hp))))
  all_goals (refine D1 15 ?_; (first | refine D1 16 ?_ | refine DD 16 ?_); (first | refine D1 17 ?_ | (refine D2 17 rfl (by exact U1 0) ?_)); (first | refine D1 18 ?_ | refine DD 18 ?_); (first | refine D1 19 ?_ | (refine D2 19 rfl (by exact U4 e) ?_)); refine D1 20 ?_; refine DD 21 ?_; refine DD 22 ?_)
  all_goals (refine D3 23 ?_; refine D5 ?_; refine CF 106 ?_; refine iR 4 rfl rfl rfl EN rfl o (KG xb mb k _ bi _ (FZ t k each) (by unfold FZ; simp_all) _ _ _) ?_; intro v1 μ1 i1 d o; dsimp only [aL, aP]; have e := e.mono d; have f := f.mono d; have j := j.mono d; have v := v.mono d; have aa := aa.mono d; have z := z.mono d; have hle := hle.trans d; refine D9 ?_)
  all_goals refine D8 ?_
  all_goals try repeat' (refine KZ ?_)
  all_goals
   refine aT 8 _ (by kernel_rfl) rfl (aC (aC (aC (aC aQ)))) ?_
   all_goals (refine DD 0 ?_; refine D1 1 ?_; refine DD 2 ?_; refine D2 3 rfl (by exact U1 0) ?_; refine D2 4 rfl (by exact U4 e) ?_; refine DD 5 ?_; refine DD 6 ?_)
   all_goals (refine D3 7 ?_; refine D5 ?_; refine CF 101 ?_; refine iR 4 rfl rfl rfl EN rfl o (bs xb mb _ _ _ p dd _ _ f v aa aj (hB.mono (by omega)) (ah.mono (by omega)) z) ?_; intro v1 μ1 i1 d o; dsimp only [aL, aP]; have j := j.mono d; have v := v.mono d; have z := z.mono d; have hle := hle.trans d; refine D9 ?_)
   all_goals refine D8 ?_
  all_goals try repeat' (refine KZ ?_)
  all_goals
   refine aT 6 _ (by kernel_rfl) rfl (aC (aC (aC (aC aQ)))) ?_
   all_goals (refine DD 0 ?_; refine D1 1 ?_; refine DD 2 ?_; refine D2 3 rfl (by ((with_reducible apply kK 1); (iterate 4 exact rfl); omega; omega)) ?_; refine DD 4 ?_)
   all_goals (refine D3 5 ?_; refine D5 ?_; refine CF 48 ?_; refine iR 4 rfl rfl rfl EN rfl o (kJ N (k.kids.drop 1) _ _ p _ _ xb mb bt j v (fun y hy => hB.mono (by have := (aq y hy).2; omega)) au (by have := gR (k.kids.drop 1); omega) z) ?_; intro v1 μ1 i1 d o; dsimp only [aL, aP]; have hle := hle.trans d; refine D9 ?_)
   all_goals refine D8 ?_
  all_goals try repeat' (refine KZ ?_)
  all_goals rw [l] at o ⊢
  all_goals exact cP (i + 1, μ1, i1) ⟨by dsimp only; omega, hle, o⟩ (by dsimp only; omega) rfl PU (dR (.refl _) (dR (.refl _) (dR (.refl _) (bS _ (fL _)))))
 ·have bm : i = t.kids.length := by omega
  subst bm
  rw [aG (aD _)] at o ⊢
  try repeat' (refine KZ ?_)
  all_goals exact gI 3 fs0 (by exact .inr rfl) bc rfl rfl ae o
end
section
open Go.RowKit Go.Vcg Ou
theorem OC (s : T) (r : List T) : vE (s :: r) = if s.op = 8 ∧ s.kids.length = 1 ∧ (dC s 0).op = 31 then (if (dC s 0).s = DE then true else vE r) else false := rfl
theorem VF : DE = ⟨#[117, 115, 101, 32, 115, 116, 114, 105, 99, 116]⟩ := by decide +kernel
theorem VL (t : T) : rZ t = (decide (t.op = 5) && !(t.kids.any fun k => decide (k.op ≠ 34))) := by
 unfold rZ
 congr 1
 induction t.kids with
 | nil => rfl
 | cons k r ih =>
   rw [kT, jK, ih]
   by_cases h : k.op = 34 <;> simp [h]
attribute [local irreducible] wdL anI mP mkD G GC GQ GA eN Calls IntKind.wrap Int.decLt Int.decLe
theorem XW (t : T) (u : Value) (μ : Mem) (hk : KR μ t.kids u) (hl : t.kids.length ≤ 100000) : ∃ v, KR μ (KE t) v ∧ ∀ (w : World) (μ' : Mem), MOk μ' w → MLe μ μ' → aV 72 #[.agg (aY t u).toArray] w v := by
 obtain ⟨A, c, rfl, hcap, d⟩ := hk.form
 unfold KE
 by_cases h1 : t.op = 1
 ·rw [if_pos h1]
  refine ⟨_, hk, fun w μ' hw hle => ?_⟩
  refine aE (args := [.agg (aY t (.slice A t.kids.length c)).toArray]) Tryz.func72 rfl Tryz.ntmps72 (by simp) hw ?_
  try repeat' (first | refine KZ ?_ | refine NB fun b => ?_)
  all_goals exact aJ rfl rfl rfl
 rw [if_neg h1]
 by_cases h4 : t.op = 4 ∧ 1 < t.kids.length ∧ (dC t 1).op = 6
 ·rw [if_pos h4]
  obtain ⟨h4, h2, h6⟩ := h4
  obtain ⟨ad, x1, rfl, a, e, f⟩ := d 1 _ (iC (by omega))
  refine ⟨x1, f, fun w μ' hw hle => ?_⟩
  have a := a.mono hle
  refine aE (args := [.agg (aY t (.slice (some ad) t.kids.length c)).toArray]) Tryz.func72 rfl Tryz.ntmps72 (by simp) hw ?_
  try repeat' (first | refine KO ?_ | (refine KV (b := by first | exact U1 1 | exact U4 a) (c := ?_)) | refine KZ ?_ | refine NB fun b => ?_)
  all_goals exact aJ rfl rfl rfl
 rw [if_neg h4]
 refine ⟨.slice none 0 0, KR.nil _ _ _, fun w μ' hw hle => ?_⟩
 by_cases g : t.op = 4
 rotate_left
 ·refine aE (args := [.agg (aY t (.slice A t.kids.length c)).toArray]) Tryz.func72 rfl Tryz.ntmps72 (by simp) hw ?_
  try repeat' (first | refine KZ ?_ | refine NB fun b => ?_)
  all_goals exact aJ rfl rfl rfl
 by_cases h2 : 1 < t.kids.length
 rotate_left
 ·refine aE (args := [.agg (aY t (.slice A t.kids.length c)).toArray]) Tryz.func72 rfl Tryz.ntmps72 (by simp) hw ?_
  try repeat' (first | refine KZ ?_ | refine NB fun b => ?_)
  all_goals exact aJ rfl rfl rfl
 have h6 : ¬(dC t 1).op = 6 := fun h => h4 ⟨g, h2, h⟩
 obtain ⟨ad, x1, rfl, a, e, f⟩ := d 1 _ (iC (by omega))
 have a := a.mono hle
 refine aE (args := [.agg (aY t (.slice (some ad) t.kids.length c)).toArray]) Tryz.func72 rfl Tryz.ntmps72 (by simp) hw ?_
 try repeat' (first | refine KO ?_ | (refine KV (b := by first | exact U1 1 | exact U4 a) (c := ?_)) | refine KZ ?_ | refine NB fun b => ?_)
 all_goals exact aJ rfl rfl rfl
theorem CV (t : T) (u : Value) (w : World) (μ : Mem) (hw : MOk μ w) (hk : KR μ t.kids u) (ah : t.size ≤ 100000) : aV 49 #[.agg (aY t u).toArray] w (.bool (qZ t)) := by
 have ai := bA t
 have ak := gR t.kids
 obtain ⟨v, o, f⟩ := XW t u μ hk (by omega)
 have ae : (KE t).length ≤ 100000 := by
  unfold KE
  split
  ·omega
  split
  ·rename_i h
   obtain ⟨-, h2, -⟩ := h
   have h9 := gR (dC t 1).kids
   have h8 := bA (dC t 1)
   have h7 : (dC t 1).size ≤ szs t.kids := T.eF (List.mem_map.2 ⟨_, eH h2, rfl⟩)
   omega
  ·exact aI _
 have y : qZ t = vE (KE t) := rfl
 rw [y]
 have ou := hk.one
 generalize KE t = l at o f ae
 obtain ⟨A, c, rfl, hcap, q⟩ := o.form
 generalize hR : vE l = R
 refine aE (args := [.agg (aY t u).toArray]) Tryz.func49 rfl Tryz.ntmps49 (by simp) hw ?_
 try repeat' (first | refine KO ?_ | refine K2 72 f ?_ | refine KZ ?_ | refine NB fun b => ?_)
 refine bW (ι := Nat) (fun i => i ≤ l.length ∧ vE (l.drop i) = R) (fun i => l.length - i) (fun _ => μ) (fun i => [(8, .int .i64 (i : Int)), (7, .int .i64 (l.length : Int)), (6, .slice A l.length c)]) (fun _ => []) 0 ⟨aI _, hR⟩ (fun a w hs => J5 hs) ?_
 rintro i ⟨hi, hJ⟩
 by_cases hlt : i < l.length
 ·obtain ⟨k, p⟩ : ∃ k, l[i]? = some k := ⟨_, aA hlt⟩
  obtain ⟨ad, x, rfl, e, aj, z⟩ := q i k p
  have aa : l.drop i = k :: l.drop (i + 1) := by
   rw [dT hlt]
   congr 1
   exact (List.getElem?_eq_some_iff.1 p).2
  rw [aa, OC] at hJ
  obtain ⟨A2, c2, rfl, ab, g⟩ := z.form
  by_cases h8 : k.op = 8
  rotate_left
  ·rw [if_neg (fun h => h8 h.1)] at hJ
   subst hJ
   try repeat' (first | refine KO ?_ | (refine KV (b := by first | exact U1 i | exact U4 e) (c := ?_)) | refine KZ ?_ | refine NB fun b => ?_)
   all_goals exact aJ rfl rfl rfl
  by_cases j : k.kids.length = 1
  rotate_left
  ·rw [if_neg (fun h => j h.2.1)] at hJ
   subst hJ
   try repeat' (first | refine KO ?_ | (refine KV (b := by first | exact U1 i | exact U4 e) (c := ?_)) | refine KZ ?_ | refine NB fun b => ?_)
   all_goals exact aJ rfl rfl rfl
  obtain ⟨ad2, x2, rfl, d, af, ag⟩ := g 0 _ (iC (by omega))
  by_cases r : (dC k 0).op = 31
  rotate_left
  ·rw [if_neg (fun h => r h.2.2)] at hJ
   subst hJ
   try repeat' (first | refine KO ?_ | (refine KV (b := by first | exact U1 i | exact U1 0 | exact U4 e | exact U4 d) (c := ?_)) | refine KZ ?_ | refine NB fun b => ?_)
   all_goals exact aJ rfl rfl rfl
  rw [if_pos ⟨h8, j, r⟩, VF] at hJ
  by_cases hu : (dC k 0).s = ⟨#[117, 115, 101, 32, 115, 116, 114, 105, 99, 116]⟩
  ·rw [if_pos hu] at hJ
   subst hJ
   try repeat' (first | refine KO ?_ | (refine KV (b := by first | exact U1 i | exact U1 0 | exact U4 e | exact U4 d) (c := ?_)) | refine KZ ?_ | refine NB fun b => ?_)
   all_goals exact aJ rfl rfl rfl
  ·rw [if_neg hu] at hJ
   try repeat' (first | refine KO ?_ | (refine KV (b := by first | exact U1 i | exact U1 0 | exact U4 e | exact U4 d) (c := ?_)) | refine KZ ?_ | refine NB fun b => ?_)
   all_goals exact J2 (i + 1) ⟨by omega, hJ⟩ (by omega)
 ·rw [bT (by omega)] at hJ
  subst hJ
  try repeat' (refine KZ ?_)
  all_goals exact aJ rfl rfl rfl
theorem KY (t : T) (u : Value) (w : World) (μ : Mem) (hw : MOk μ w) (ou : u.oneCell' = true) : Calls Tryz.prog 162 ([Value.agg (aY t u).toArray] ++ []).toArray w fun e w' => e = .returned (.bool (decide (t.op ≠ 34))) ∧ Below w.heap.size w w' := by
 refine aE (args := [.agg (aY t u).toArray]) Tryz.func162 rfl Tryz.ntmps162 (by simp) hw ?_
 try repeat' (first | refine KZ ?_ | refine NB fun b => ?_)
 all_goals exact aJ rfl rfl rfl
theorem PM (t : T) (u : Value) (w : World) (μ : Mem) (hw : MOk μ w) (hk : KR μ t.kids u) (j : t.size ≤ 100000) : aV 138 #[.agg (aY t u).toArray] w (.bool (rZ t)) := by
 have l := bA t
 have o := gR t.kids
 have g := hk
 obtain ⟨A, c, rfl, hcap, i⟩ := hk.form
 rw [VL]
 have a := fun w μc hw (hle : MLe μ μc) => yE 162 [] (fun k => decide (k.op ≠ 34)) t.kids A t.kids.length c w μc hw (by kernel_rfl) (g.mono hle) rfl (fun k x w μ' _ d h f => KY k x w μ' d f.one) (by omega)
 generalize (t.kids.any fun k => decide (k.op ≠ 34)) = q at a ⊢
 refine aE (args := [.agg (aY t (.slice A t.kids.length c)).toArray]) Tryz.func138 rfl Tryz.ntmps138 (by simp) hw ?_
 try repeat' (first | refine KZ ?_ | ((with_reducible apply C1); exact rfl; exact EN; exact fun w μc hw e => a w μc hw e.le) | refine NB fun b => ?_ | (refine KB ?_ ?_ <;> intro p))
 all_goals refine aJ rfl rfl ?_
 all_goals simp_all
end
end Go.Proofs.YtlllalmkkaolfaaGreatDoor
