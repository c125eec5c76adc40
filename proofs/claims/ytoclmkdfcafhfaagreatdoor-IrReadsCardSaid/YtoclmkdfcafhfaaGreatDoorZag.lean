/- Package ir: whole units written and read, plainly. -/
import Derived.Test.YtoclmkdfcafhfaaGreatDoorZaf
import Derived.Lib.IndexMore
set_option maxRecDepth 20000
set_option maxHeartbeats 2000000
namespace Go.Proofs.YtoclmkdfcafhfaaGreatDoor.Iq
section
open Go Go.Proofs.YtoclmkdfcafhfaaGreatDoor.Ou
section
variable (row : Int → List UInt8 × List UInt8) (aP : List UInt8 → Option Int)
def fnT (f : FnP) : List UInt8 := TU (byS f.name) f.kind f.len f.loc ++ 10 :: kM row f.body
def aF6 (fs : List FnP) : List UInt8 := (jU ++ Lib.itoa fs.length) ++ 10 :: fs.flatMap (fnT row)
def eE (g : Nat) : Nat → Int → List UInt8 → RdR (List FnP)
  | 0, k, s => .ok ([], s, k)
  | c + 1, k, s => match aO 10 s with
    | none => .error (k + 1, 8)
    | some (l, r) => match gH l with
      | none => .error (k + 1, 7)
      | some (nm, a, b, d) => match cN aP g 1 (k + 1) r with
        | .error e => .error e
        | .ok (t, r', k') => match eE g c k' r' with
          | .error e => .error e
          | .ok (fs, r'', k'') => .ok (⟨ofB nm, a, b, d, t⟩ :: fs, r'', k'')
def lE (l : List UInt8) : Option Nat := match pre jU l with
  | none => none
  | some w => match rD w with
    | none => none
    | some n => if 1 ≤ n ∧ n ≤ 4096 then some n.toNat else none
def eY (right : List FnP → Bool) (s : List UInt8) : Except (Int × Int) (List FnP) :=
  if 1048576 < s.length then .error (0, 9) else match aO 10 s with
    | none => .error (1, 8)
    | some (l, r) => match lE l with
      | none => .error (1, 7)
      | some c => match eE aP (2 * s.length + 4) c 1 r with
        | .error e => .error e
        | .ok (fs, r', k) => if r' = [] then (if right fs = true then .ok fs else .error (0, 1)) else .error (k + 1, 7)
variable {row aP}
theorem zB (hR : UF row aP) (g : Nat) : ∀ (c : Nat) (k : Int) (s : List UInt8) (fs : List FnP) (r : List UInt8) (k' : Int), eE aP g c k s = .ok (fs, r, k') → s = fs.flatMap (fnT row) ++ r ∧ fs.length = c
  | 0, k, s, fs, r, k', h => by
    unfold eE at h
    cases h
    exact ⟨by simp, rfl⟩
  | c + 1, k, s, fs, r, k', h => by
    unfold eE at h
    split at h
    · cases h
    rename_i l r1 hc
    split at h
    · cases h
    rename_i nm a b d hf
    split at h
    · cases h
    rename_i t r2 k2 hn
    split at h
    · cases h
    rename_i fs' r3 k3 hr
    cases h
    obtain ⟨e1, e2⟩ := zB hR g c k2 r2 fs' r k' hr
    have e3 := (CD hR g).1 _ _ _ _ _ _ hn
    refine ⟨?_, by rw [List.length_cons, e2]⟩
    have e4 : fnT row ⟨ofB nm, a, b, d, t⟩ = TU nm a b d ++ 10 :: kM row t := by
      unfold fnT
      dsimp only
      rw [dG]
    rw [(cD hc).1, PZ hf, List.flatMap_cons, e4, List.append_assoc, List.append_assoc, List.cons_append, ← e1, ← e3]
mutual
theorem ZJ : ∀ t : T, 1 + nf t ≤ (kM row t).length
  | .mk op a n m s kids => by
    have h := ZX kids
    simp only [nf, kM]
    unfold CR dO
    simp only [List.length_append, List.length_cons]
    omega
theorem ZX : ∀ ts : List T, kf ts ≤ 1 + (lR row ts).length
  | [] => by simp [kf]
  | t :: ts => by
    have h1 := ZJ t
    have h2 := ZX ts
    simp only [kf, lR, List.length_append]
    omega
end
end
end
section
open Go Go.Proofs.YtoclmkdfcafhfaaGreatDoor.Ou
def aAq (fs : List FnP) : Fns := fs.map fun f => (f.kind, f.loc)
def dD (n : Nat) : CkS := ⟨List.replicate n false, List.replicate n [], []⟩
def KW (fs : List FnP) : Bool := inI fs.length 1 4096 && (fs.all (fun f => decide (f.name.size ≤ 65536) && (inI f.kind 0 255 && (inI f.len 0 1024 && inI f.loc 0 4096))) && !KZ (fs.head?.map (·.kind) |>.getD 0))
def bV (row : Int → List UInt8 × List UInt8) (fs : List FnP) : Bool := KW fs && uZ row (aAq fs) (fs.map (·.body)) (List.range fs.length) (dD fs.length)
section
variable {row : Int → List UInt8 × List UInt8} {fs : Fns}
end
mutual
def SzT : T → Prop
  | .mk _ _ _ _ s kids => kids.length ≤ 1048576 ∧ s.size ≤ 65536 ∧ SzL kids
def SzL : List T → Prop
  | [] => True
  | k :: r => SzT k ∧ SzL r
end
def Small (l : List Int) : Prop := ∀ x ∈ l, 0 ≤ x ∧ x ≤ 4096
def cnt (l : List Bool) : Nat := l.count true
def tE (p : PlP) (deep : Int) (k : Nat) : Prop := (p.slots.length : Int) + 1 ≤ 2048 * k + deep ∧ Small p.slots ∧ Small p.breaks ∧ Small p.agains
def AM (c : CkS) (funcs : Nat) : Prop := c.met.length = funcs ∧ ∀ l ∈ c.slots, l.length ≤ 2048 * cnt c.met ∧ Small l
theorem UA {l : List Bool} {k : Nat} (hk : k < l.length) (h : ¬ l.getD k false = true) : cnt (l.set k true) = cnt l + 1 := by
  induction l generalizing k with
  | nil => simp at hk
  | cons x r ih =>
    cases k with
    | zero =>
      have hx : x = false := by simpa using h
      subst hx
      simp [cnt]
    | succ k =>
      have := ih (k := k) (by simpa using hk) (by simpa using h)
      unfold cnt at this ⊢
      rw [List.set_cons_succ, List.count_cons, List.count_cons, this]
      omega
theorem QN (l : List Bool) : cnt l ≤ l.length := List.count_le_length
theorem gQ {n lo hi : Int} (h : inI n lo hi = true) : lo ≤ n ∧ n ≤ hi := by
  unfold inI at h
  simpa using h
theorem NA {l : List Int} (h : Small l) (k : Nat) : l.getD k 0 ≤ 4096 := by
  rw [List.getD_eq_getElem?_getD]
  cases hk : l[k]? with
  | none => simp
  | some x => exact (h x (List.mem_of_getElem? hk)).2
theorem BF {fs : Fns} {f op n m : Int} {p : PlP} {c : CkS} {deep : Int} (hc : AM c fs.length) (hp : tE p deep (cnt c.met)) (hd : deep ≤ 2048) (hn : bB op n (fN fs f) fs.length = true) : AM (cA fs f op n m p c).1 fs.length ∧ cnt c.met ≤ cnt (cA fs f op n m p c).1.met := by
  unfold cA
  split
  · exact ⟨hc, Nat.le_refl _⟩
  split
  · rename_i h119
    dsimp only
    split
    · exact ⟨hc, Nat.le_refl _⟩
    · rename_i hmet
      have hr : 1 ≤ n ∧ n ≤ (fs.length : Int) - 1 := by
        subst h119
        simp [bB] at hn
        exact gQ hn
      have hlt : n.toNat < c.met.length := by rw [hc.1]; omega
      have hcs := UA hlt hmet
      refine ⟨⟨by rw [List.length_set]; exact hc.1, fun l hl => ?_⟩, by dsimp only; omega⟩
      dsimp only at hl ⊢
      rw [hcs]
      rcases List.mem_or_eq_of_mem_set hl with h | h
      · have := hc.2 l h
        exact ⟨by omega, this.2⟩
      · subst h
        have := hp.1
        exact ⟨by omega, hp.2.1⟩
  split
  · exact ⟨hc, Nat.le_refl _⟩
  split
  · exact ⟨hc, Nat.le_refl _⟩
  split
  · exact ⟨hc, Nat.le_refl _⟩
  split
  · exact ⟨hc, Nat.le_refl _⟩
  · exact ⟨hc, Nat.le_refl _⟩
theorem XY {fs : Fns} {f op n m : Int} {p : PlP} {c : CkS} {deep : Int} {k : Nat} (hp : tE p deep k) (hsl : (p.slots.length : Int) ≤ 9000000000) (hloc : fN fs f ≤ 4096) (hfs : fs.length ≤ 4096) (hn : bB op n (fN fs f) fs.length = true) (hm : cG op m = true) (hs : (cA fs f op n m p c).2 = true) :
    (-9007199254740992 ≤ n ∧ n ≤ 9007199254740992) ∧ (-9007199254740992 ≤ m ∧ m ≤ 9007199254740992) := by
  unfold bB at hn
  unfold cG at hm
  unfold cA at hs
  by_cases h1 : op = 109 ∨ op = 110
  · rw [if_pos h1] at hs
    simp only [Bool.and_eq_true] at hs
    have a := gQ hs.1
    have b := gQ hs.2
    have d := NA hp.2.1 n.toNat
    omega
  rw [if_neg h1] at hs hm
  have hmm : -9007199254740992 ≤ m ∧ m ≤ 9007199254740992 := by
    split at hm
    · have := gQ hm; omega
    split at hm
    · have := gQ hm; omega
    · simp at hm; omega
  refine ⟨?_, hmm⟩
  by_cases h2 : op = 165
  · subst h2
    simp at hs
    have := hp.2.2.1 n (by simpa using hs)
    omega
  by_cases h3 : op = 166
  · subst h3
    simp at hs
    have := hp.2.2.2 n (by simpa using hs)
    omega
  split at hn
  · have := gQ hn; omega
  split at hn
  · have := gQ hn; omega
  split at hn
  · have := gQ hn; omega
  split at hn
  · rename_i h
    exfalso
    rcases h with h | h | h | h
    · exact h1 (.inl h)
    · exact h1 (.inr h)
    · exact h2 h
    · exact h3 h
  split at hn
  · have := gQ hn; omega
  split at hn
  · have := gQ hn; omega
  split at hn
  · have := gQ hn; omega
  split at hn
  · have := gQ hn; omega
  split at hn
  · have := gQ hn; omega
  · simp at hn; omega
theorem tJ {l : List Int} {x : Int} (h : Small l) (hx : 0 ≤ x ∧ x ≤ 4096) : Small (l ++ [x]) := fun y hy => by
  rcases List.mem_append.1 hy with hy | hy
  · exact h y hy
  · rw [List.mem_singleton.1 hy]; exact hx
theorem NC {l : List Int} {x : Int} (h : Small l) (hx : 0 ≤ x ∧ x ≤ 4096) : Small (x :: l) := fun y hy => by
  rcases List.mem_cons.1 hy with rfl | hy
  · exact hx
  · exact h y hy
theorem xY {op n loc funcs : Int} (h : op = 163 ∨ op = 164 ∨ op = 170) (hn : bB op n loc funcs = true) : 0 ≤ n ∧ n ≤ 4096 := by
  rcases h with rfl | rfl | rfl <;> simp [bB] at hn <;> exact gQ hn
theorem ZN {m : Int} (hm : cG 163 m = true) : 0 ≤ m ∧ m ≤ 4096 := by
  simp [cG] at hm
  exact gQ hm
theorem DC {fs : Fns} {f op n : Int} {p : PlP} {deep : Int} {k : Nat} (hp : tE p deep k) (hn : bB op n (fN fs f) fs.length = true) : tE (inside op n p) (deep + 1) k := by
  obtain ⟨h1, h2, h3, h4⟩ := hp
  unfold inside
  split
  · rename_i h
    exact ⟨by dsimp only; omega, h2, tJ h3 (xY (.inr (.inl h)) hn), h4⟩
  split
  · rename_i h
    exact ⟨by simp only [List.length_cons]; omega, NC h2 (xY (.inr (.inr h)) hn), h3, h4⟩
  · exact ⟨by omega, h2, h3, h4⟩
theorem MK {fs : Fns} {f op n m : Int} {p : PlP} {deep : Int} {k i : Nat} (hp : tE p deep k) (hn : bB op n (fN fs f) fs.length = true) (hm : cG op m = true) : tE (dN op n m p i) deep k := by
  obtain ⟨h1, h2, h3, h4⟩ := hp
  unfold dN
  split
  · rename_i h
    obtain ⟨rfl, _⟩ := h
    exact ⟨h1, h2, tJ h3 (xY (.inl rfl) hn), tJ h4 (ZN hm)⟩
  · exact ⟨h1, h2, h3, h4⟩
theorem tE.up {p : PlP} {deep : Int} {k k' : Nat} (h : tE p deep k) (hk : k ≤ k') : tE p deep k' := ⟨by have := h.1; omega, h.2⟩
section
variable {row : Int → List UInt8 × List UInt8} {fs : Fns}
theorem oL {op a n m : Int} {s : ByteArray} {kids : List T} {f deep : Int} (h : eO row fs (.mk op a n m s kids) f deep = true) :
    deep ≤ 2048 ∧ (row op).1 ≠ [] ∧ cG op m = true ∧ bB op n (fN fs f) fs.length = true := by
  unfold eO at h
  simp only [T.op, T.n, T.m, T.s, T.kids, Bool.and_eq_true, decide_eq_true_eq, Bool.not_eq_true'] at h
  refine ⟨h.1, fun e => ?_, h.2.2.2.2.1, h.2.2.2.2.2.1⟩
  have := h.2.1
  rw [e] at this
  cases this
mutual
theorem SW (hfs : fs.length ≤ 4096) (hloc : ∀ f, fN fs f ≤ 4096) : ∀ (t : T) (f : Int) (p : PlP) (deep : Int) (c c' : CkS), AM c fs.length → tE p deep (cnt c.met) → SzT t → dI row fs f t p deep c = (c', true) → OkT row deep t ∧ AM c' fs.length ∧ cnt c.met ≤ cnt c'.met
  | .mk op a n m s kids, f, p, deep, c, c', hc, hp, hz, h => by
    simp only [dI] at h
    simp only [SzT] at hz
    split at h
    · rename_i hsh
      obtain ⟨s1, s2, s3, s4⟩ := oL hsh
      split at h
      · rename_i hst
        have hlen : (p.slots.length : Int) ≤ 9000000000 := by
          have h1 := hp.1
          have h2 := QN c.met
          rw [hc.1] at h2
          omega
        obtain ⟨k1, k2⟩ := BF (m := m) hc hp s1 s4
        obtain ⟨n1, n2⟩ := XY hp hlen (hloc f) hfs s4 s3 hst
        obtain ⟨e1, e2, e3⟩ := TE hfs hloc kids f op n m (inside op n p) deep 0 _ c' k1 ((DC hp s4).up k2) hz.2.2 s4 s3 h
        simp only [OkT]
        exact ⟨⟨s2, n1, n2, hz.1, hz.2.1, s1, e1⟩, e2, Nat.le_trans k2 e3⟩
      · cases h
    · cases h
theorem TE (hfs : fs.length ≤ 4096) (hloc : ∀ f, fN fs f ≤ 4096) : ∀ (ts : List T) (f op n m : Int) (p : PlP) (deep : Int) (i : Nat) (c c' : CkS), AM c fs.length → tE p (deep + 1) (cnt c.met) → SzL ts → bB op n (fN fs f) fs.length = true → cG op m = true → gP row fs f op n m p deep ts i c = (c', true) → OkL row deep ts ∧ AM c' fs.length ∧ cnt c.met ≤ cnt c'.met
  | [], f, op, n, m, p, deep, i, c, c', hc, hp, hz, hn, hm, h => by
    simp only [gP] at h
    cases h
    simp only [OkL]
    exact ⟨trivial, hc, Nat.le_refl _⟩
  | t :: ts, f, op, n, m, p, deep, i, c, c', hc, hp, hz, hn, hm, h => by
    simp only [gP] at h
    simp only [SzL] at hz
    split at h
    · rename_i hq
      obtain ⟨e1, e2, e3⟩ := SW hfs hloc t f (dN op n m p i) (deep + 1) c (dI row fs f t (dN op n m p i) (deep + 1) c).1 hc (MK hp hn hm) hz.1 (by rw [← hq])
      obtain ⟨f1, f2, f3⟩ := TE hfs hloc ts f op n m p deep (i + 1) _ c' e2 (hp.up e3) hz.2 hn hm h
      simp only [OkL]
      exact ⟨⟨e1, f1⟩, f2, Nat.le_trans e3 f3⟩
    · cases h
end
end
end
section
open Go Go.Proofs.YtoclmkdfcafhfaaGreatDoor.Ou
def Met (c : CkS) (k : Nat) : Prop := c.met.getD k false = true
def Gr (c c' : CkS) : Prop := (∀ k, Met c k → Met c' k) ∧ (∀ k, Met c' k → Met c k ∨ (k : Int) ∈ c'.next) ∧ (∀ x ∈ c.next, x ∈ c'.next) ∧ ∀ x ∈ c'.next, x ∈ c.next ∨ 0 ≤ x
theorem Gr.trans {a b c : CkS} (h : Gr a b) (k : Gr b c) : Gr a c := ⟨fun i hi => k.1 i (h.1 i hi), fun i hi => by
  rcases k.2.1 i hi with h1 | h1
  · rcases h.2.1 i h1 with h2 | h2
    · exact .inl h2
    · exact .inr (k.2.2.1 _ h2)
  · exact .inr h1, fun x hx => k.2.2.1 x (h.2.2.1 x hx), fun x hx => by
  rcases k.2.2.2 x hx with h1 | h1
  · exact h.2.2.2 x h1
  · exact .inr h1⟩
theorem yY {l : List Bool} {k j : Nat} : (l.set k true).getD j false = true ↔ (k = j ∧ k < l.length) ∨ l.getD j false = true := by
  rw [List.getD_eq_getElem?_getD, List.getD_eq_getElem?_getD, List.getElem?_set]
  by_cases h : k = j
  · subst h
    by_cases hk : k < l.length
    · simp [hk]
    · simp [hk]
  · simp [h]
section
variable {row : Int → List UInt8 × List UInt8} {fs : Fns}
theorem MB {c : CkS} {n : Nat} (hc : AM c n) (f : Nat) : tE ⟨c.slots.getD f [], [], [], false⟩ 1 (cnt c.met) := by
  have hl : (c.slots.getD f []).length ≤ 2048 * cnt c.met ∧ Small (c.slots.getD f []) := by
    rw [List.getD_eq_getElem?_getD]
    cases h : c.slots[f]? with
    | none => exact ⟨Nat.zero_le _, fun x hx => by simp at hx⟩
    | some l => exact hc.2 l (List.mem_of_getElem? h)
  exact ⟨by dsimp only; omega, hl.2, fun x hx => (by cases hx), fun x hx => (by cases hx)⟩
end
end
section
open Go Go.Proofs.YtoclmkdfcafhfaaGreatDoor.Ou
def vZ (c : CkS) : Nat := c.met.count false
def qF (c : CkS) : Nat := vZ c + c.next.length
theorem count_set {l : List Bool} {k : Nat} (hk : k < l.length) (h : ¬ l.getD k false = true) : (l.set k true).count false + 1 = l.count false := by
  induction l generalizing k with
  | nil => simp at hk
  | cons x r ih =>
    cases k with
    | zero =>
      have hx : x = false := by simpa using h
      subst hx
      simp
    | succ k =>
      have := ih (k := k) (by simpa using hk) (by simpa using h)
      rw [List.set_cons_succ, List.count_cons, List.count_cons, ← this]
      omega
section
variable {row : Int → List UInt8 × List UInt8} {fs : Fns}
def eN (c c' : CkS) : Prop := c'.met.length = c.met.length ∧ c'.slots.length = c.slots.length ∧ qF c' = qF c
theorem eN.refl (c : CkS) : eN c c := ⟨rfl, rfl, rfl⟩
theorem eN.trans {a b c : CkS} (h : eN a b) (k : eN b c) : eN a c := ⟨k.1.trans h.1, k.2.1.trans h.2.1, k.2.2.trans h.2.2⟩
theorem qT (f op n m : Int) (p : PlP) (c : CkS) (hl : c.met.length = fs.length) (hn : bB op n (fN fs f) fs.length = true) : eN c (cA fs f op n m p c).1 := by
  unfold cA
  split
  · exact eN.refl _
  split
  · rename_i h119
    dsimp only
    split
    · exact eN.refl _
    · rename_i hmet
      have hr : 1 ≤ n ∧ n ≤ (fs.length : Int) - 1 := by
        subst h119
        simp [bB] at hn
        exact gQ hn
      have hc := count_set (k := n.toNat) (by rw [hl]; omega) hmet
      refine ⟨List.length_set, List.length_set, ?_⟩
      unfold qF vZ
      simp only [List.length_append, List.length_cons, List.length_nil]
      omega
  split
  · exact eN.refl _
  split
  · exact eN.refl _
  split
  · exact eN.refl _
  split
  · exact eN.refl _
  · exact eN.refl _
mutual
theorem oY : ∀ (t : T) (f : Int) (p : PlP) (deep : Int) (c : CkS), c.met.length = fs.length → eN c (dI row fs f t p deep c).1
  | .mk op a n m s kids, f, p, deep, c, hl => by
    simp only [dI]
    split
    · rename_i hsh
      have hs := qT f op n m p c hl (oL hsh).2.2.2
      split
      · exact hs.trans (KQ kids f op n m _ deep 0 _ (hs.1.trans hl))
      · exact hs
    · exact eN.refl _
theorem KQ : ∀ (ts : List T) (f op n m : Int) (p : PlP) (deep : Int) (i : Nat) (c : CkS), c.met.length = fs.length → eN c (gP row fs f op n m p deep ts i c).1
  | [], _, _, _, _, _, _, _, _, _ => by
    simp only [gP]
    exact eN.refl _
  | t :: ts, f, op, n, m, p, deep, i, c, hl => by
    simp only [gP]
    have h := oY t f (dN op n m p i) (deep + 1) c hl
    split
    · exact h.trans (KQ ts f op n m p deep (i + 1) _ (h.1.trans hl))
    · exact h
end
end
end
section
open Go Go.Proofs.YtoclmkdfcafhfaaGreatDoor.Ou
theorem BJ {x r : List UInt8} : ∀ {w : List UInt8}, Fr 32 w → (32 :: x) <:+: (w ++ 32 :: r) → (32 :: x) <:+: (32 :: r)
  | [], _, h => h
  | c :: w, hw, h => by
    rcases List.infix_cons_iff.1 h with h1 | h1
    · obtain ⟨t, ht⟩ := h1
      exact absurd (List.cons.inj ht).1 (fun e => hw (by rw [e]; exact List.mem_cons_self ..))
    · exact BJ (fun hh => hw (List.mem_cons_of_mem _ hh)) h1
theorem uC {s : List UInt8} (hs : Fr 32 s) : ∀ {ws : List (List UInt8)}, (∀ w ∈ ws, Fr 32 w) → ((32 :: (s ++ [32])) <:+: (32 :: ws.flatMap (· ++ [32])) ↔ s ∈ ws)
  | [], _ => by
    constructor
    · intro h
      have := h.length_le
      simp at this
    · intro h; cases h
  | w :: ws, hw => by
    have hw1 := hw w (List.mem_cons_self ..)
    have ih := uC hs (ws := ws) (fun x hx => hw x (List.mem_cons_of_mem _ hx))
    rw [List.flatMap_cons, List.append_assoc, List.singleton_append]
    constructor
    · intro h
      rcases List.infix_cons_iff.1 h with h1 | h1
      · obtain ⟨t, ht⟩ := h1
        have h2 : (s ++ [32]) ++ t = _ := (List.cons.inj ht).2
        rw [List.append_assoc, List.singleton_append] at h2
        obtain ⟨e, _⟩ := TZ hs hw1 h2
        rw [e]
        exact List.mem_cons_self ..
      · exact List.mem_cons_of_mem _ (ih.1 (BJ hw1 h1))
    · intro h
      rcases List.mem_cons.1 h with rfl | h
      · exact ⟨[], ws.flatMap (· ++ [32]), by simp⟩
      · obtain ⟨a, b, hab⟩ := ih.2 h
        refine ⟨32 :: w ++ a, b, ?_⟩
        rw [← hab]
        simp
theorem aBa {ws : List (List UInt8)} (hw : ∀ w ∈ ws, Fr 32 w) (hn : [] ∉ ws) (s : List UInt8) : (s ≠ [] ∧ (32 : UInt8) ∉ s ∧ (32 :: (s ++ [32])) <:+: (32 :: ws.flatMap (· ++ [32]))) ↔ ws.contains s = true := by
  rw [List.contains_iff_mem]
  constructor
  · rintro ⟨_, h2, h3⟩
    exact (uC h2 hw).1 h3
  · intro h
    have hf := hw s h
    exact ⟨fun e => hn (by rw [← e]; exact h), hf, (uC hf hw).2 h⟩
theorem uN : ∀ (s sub : List UInt8), 0 ≤ Lib.index s sub ↔ sub <:+: s
  | [], sub => by
    cases sub with
    | nil => simp [Lib.index]
    | cons a t => simp [Lib.index]
  | b :: l, sub => by
    have ih := uN l sub
    have hge := Lib.index_ge l sub
    have hstep : Lib.index (b :: l) sub = if sub.isPrefixOf (b :: l) then 0 else if Lib.index l sub == -1 then -1 else Lib.index l sub + 1 := rfl
    rw [List.infix_cons_iff, ← ih, hstep]
    by_cases h : sub.isPrefixOf (b :: l) = true
    · rw [if_pos h]
      exact ⟨fun _ => .inl (List.isPrefixOf_iff_prefix.1 h), fun _ => by simp⟩
    · rw [if_neg h]
      have hp : ¬ sub <+: b :: l := fun hh => h (List.isPrefixOf_iff_prefix.2 hh)
      by_cases h1 : Lib.index l sub = -1
      · rw [h1, if_pos (by rfl)]
        exact ⟨fun hh => absurd hh (by decide), fun hh => absurd (hh.resolve_left hp) (by decide)⟩
      · rw [if_neg (by rw [beq_iff_eq]; exact h1)]
        exact ⟨fun _ => .inr (by omega), fun hh => by have := hh.resolve_left hp; omega⟩
theorem pI (s sub : List UInt8) : Lib.contains s sub = true ↔ sub <:+: s := by
  unfold Lib.contains
  rw [decide_eq_true_eq, uN]
end
end Go.Proofs.YtoclmkdfcafhfaaGreatDoor.Iq
namespace Go.Proofs.YtoclmkdfcafhfaaGreatDoor
section
open Go.RowKit Go.Vcg Ou
theorem XQ {p : UInt8 → Bool} : ∀ (d : List UInt8) (j : Nat), j < (d.takeWhile p).length → ∃ c, d[j]? = some c ∧ p c = true
  | [], j, h => by simp at h
  | c :: r, j, h => by
    rw [List.takeWhile_cons] at h
    by_cases hc : p c = true
    · rw [if_pos hc] at h
      cases j with
      | zero => exact ⟨c, rfl, hc⟩
      | succ j => exact XQ r j (by simpa using h)
    · rw [if_neg hc] at h; simp at h
theorem XR {p : UInt8 → Bool} : ∀ (d : List UInt8) (c : UInt8), d[(d.takeWhile p).length]? = some c → p c = false
  | [], c, h => by simp at h
  | x :: r, c, h => by
    rw [List.takeWhile_cons] at h
    by_cases hc : p x = true
    · rw [if_pos hc, List.length_cons, List.getElem?_cons_succ] at h
      exact XR r c h
    · rw [if_neg hc] at h
      simp at h
      rw [← h]
      simpa using hc
def cX : List UInt8 → List UInt8
  | [] => []
  | c :: r => if Iq.cR c = true then c :: r.takeWhile Iq.gD else []
theorem aBp (p : UInt8 → Bool) (l : List UInt8) : l.takeWhile p = l ↔ l.all p = true := by
  induction l with
  | nil => simp
  | cons a r ih => cases h : p a <;> simp [List.takeWhile_cons, h, ih]
theorem DK (l : List UInt8) : Iq.oB l = decide (cX l ≠ [] ∧ cX l = l) := by
  cases l with
  | nil => rfl
  | cons c r =>
    unfold Iq.oB cX
    dsimp only
    by_cases h : Iq.cR c = true
    · simp only [h, if_true, Bool.true_and, ne_eq, reduceCtorEq, not_false_eq_true, true_and, List.cons.injEq]
      rw [Bool.eq_iff_iff, decide_eq_true_iff]
      exact (aBp Iq.gD r).symm
    · have h2 : Iq.cR c = false := by simpa using h
      simp [h2]
attribute [local irreducible] G GC GQ GA bO Calls IntKind.wrap Int.decLt Int.decLe
theorem KM (x : Int) (c : UInt8) (hx : x = c.toNat) (w : World) (μ : Mem) (hμ : MOk μ w) : Calls Tryz.prog 169 #[.int .u8 x] w fun e w' => e = .returned (.bool (Iq.cR c)) ∧ Below w.heap.size w w' := by
  subst hx
  have hc := c.toNat_lt
  refine aC (args := [.int .u8 c.toNat]) Tryz.func169 rfl Tryz.ntmps169 (by simp) hμ ?_
  have h0 : Iq.cR c = decide ((97 ≤ (c.toNat : Int) ∧ (c.toNat : Int) ≤ 122) ∨ (65 ≤ (c.toNat : Int) ∧ (c.toNat : Int) ≤ 90) ∨ (c.toNat : Int) = 95 ∨ (c.toNat : Int) = 36) := by
    unfold Iq.cR
    rw [Bool.eq_iff_iff]
    simp
    omega
  rw [h0]
  repeat' (first | refine KK ?_ | (refine KB ?_ ?_ <;> intro hp) | refine KG ?_ | fail)
  all_goals (refine aD rfl rfl ?_; congr 1; rw [Bool.eq_iff_iff]; simp; omega)
theorem EP (x : Int) (c : UInt8) (hx : x = c.toNat) (w : World) (μ : Mem) (hμ : MOk μ w) : Calls Tryz.prog 170 #[.int .u8 x] w fun e w' => e = .returned (.bool (Iq.cR c)) ∧ Below w.heap.size w w' := by
  subst hx
  have hc := c.toNat_lt
  refine aC (args := [.int .u8 c.toNat]) Tryz.func170 rfl Tryz.ntmps170 (by simp) hμ ?_
  have h0 : Iq.cR c = decide ((97 ≤ (c.toNat : Int) ∧ (c.toNat : Int) ≤ 122) ∨ (65 ≤ (c.toNat : Int) ∧ (c.toNat : Int) ≤ 90) ∨ (c.toNat : Int) = 95 ∨ (c.toNat : Int) = 36) := by
    unfold Iq.cR
    rw [Bool.eq_iff_iff]
    simp
    omega
  rw [h0]
  repeat' (first | refine KK ?_ | (refine KB ?_ ?_ <;> intro hp) | refine KG ?_ | fail)
  all_goals (refine aD rfl rfl ?_; congr 1; rw [Bool.eq_iff_iff]; simp; omega)
end
section
section eq1
open Go.RowKit Go.Vcg
inductive Sm : T → T → Prop
  | mk (a b : T) (h1 : a.op = b.op) (h2 : a.n = b.n) (h3 : a.m = b.m) (h4 : a.s = b.s) (h5 : a.kids.length = b.kids.length) (h6 : ∀ (i : Nat) (x y : T), a.kids[i]? = some x → b.kids[i]? = some y → Sm x y) : Sm a b
def SmL (l m : List T) : Prop := l.length = m.length ∧ ∀ (i : Nat) (x y : T), l[i]? = some x → m[i]? = some y → Sm x y
theorem oJ {a b : T} : Sm a b ↔ a.op = b.op ∧ a.n = b.n ∧ a.m = b.m ∧ a.s = b.s ∧ SmL a.kids b.kids :=
  ⟨fun h => by cases h with | mk _ _ h1 h2 h3 h4 h5 h6 => exact ⟨h1, h2, h3, h4, h5, h6⟩, fun ⟨h1, h2, h3, h4, h5, h6⟩ => .mk a b h1 h2 h3 h4 h5 h6⟩
noncomputable def dB (p : Prop) : Bool := @decide p (Classical.propDecidable p)
theorem aGy {p : Prop} (h : p) : dB p = true := @decide_eq_true p (Classical.propDecidable p) h
theorem aFi {p : Prop} (h : ¬p) : dB p = false := @decide_eq_false p (Classical.propDecidable p) h
theorem aC7 {p : Prop} (h : dB p = true) : p := @of_decide_eq_true p (Classical.propDecidable p) h
theorem LX {p : Prop} (h : dB p = false) : ¬p := @of_decide_eq_false p (Classical.propDecidable p) h
noncomputable def smB (a b : T) : Bool := dB (Sm a b)
noncomputable def aBw (l m : List T) : Bool := dB (SmL l m)
theorem aGa {a b : T} (h : Sm a b) : smB a b = true := by unfold smB; exact aGy h
theorem BI {a b : T} (h : ¬Sm a b) : smB a b = false := by unfold smB; exact aFi h
theorem HR {a b : T} (h : smB a b = true) : Sm a b := by unfold smB at h; exact aC7 h
theorem BH {a b : T} (h : smB a b = false) : ¬Sm a b := by unfold smB at h; exact LX h
theorem aF8 {a b : T} (h : ¬a.op = b.op) : smB a b = false := BI fun e => h (oJ.1 e).1
theorem aG6 {a b : T} (h : ¬a.n = b.n) : smB a b = false := BI fun e => h (oJ.1 e).2.1
theorem aG7 {a b : T} (h : ¬a.m = b.m) : smB a b = false := BI fun e => h (oJ.1 e).2.2.1
theorem aG5 {a b : T} (h : ¬a.s = b.s) : smB a b = false := BI fun e => h (oJ.1 e).2.2.2.1
theorem T.aE5 {p : T → Prop} (h : ∀ t : T, (∀ k, k ∈ t.kids → p k) → p t) (t : T) : p t := by
  have key : ∀ (n : Nat) (t : T), t.size ≤ n → p t := by
    intro n
    induction n with
    | zero => intro t ht; rw [T.size_eq] at ht; omega
    | succ n ih =>
      intro t ht
      refine h t fun k hk => ih k ?_
      obtain ⟨i, hi⟩ := List.mem_iff_getElem?.1 hk
      have := T.oK hi
      omega
  exact key t.size t (Nat.le_refl _)
theorem aBv (t : T) : Sm t t := T.aE5 (p := fun t => Sm t t) (fun t ih => oJ.2 ⟨rfl, rfl, rfl, rfl, rfl, fun i x y hx hy => by
  rw [hx] at hy
  cases hy
  exact ih x (List.mem_of_getElem? hx)⟩) t
theorem sK (t : T) : t.kids.length < t.size := by
  rw [T.size_eq]
  have : ∀ l : List T, l.length ≤ (l.map T.size).sum := fun l => by
    induction l with
    | nil => simp
    | cons x l ih =>
      have := T.size_eq x
      simp; omega
  have := this t.kids
  omega
attribute [local irreducible] smB aBw G GC GQ GA bO Calls IntKind.wrap Int.decLt Int.decLe
def aFs (f : FuncId) (a : T) : Prop := ∀ (b : T) (w : World) (μ : Mem) (u v : Value), MOk μ w → KR μ a.kids u → KR μ b.kids v → a.size ≤ 100000 → b.size ≤ 100000 →
  Calls Tryz.prog f #[.agg (aR a u).toArray, .agg (aR b v).toArray] w fun e w' => e = .returned (.bool (smB a b)) ∧ Below w.heap.size w w'
end eq1
section eq2
open Go.RowKit Go.Vcg
structure F where
  name : ByteArray
  kind : Int
  len : Int
  loc : Int
  body : T
abbrev dS (f : F) (u : Value) : List Value := [.string f.name, .int .i64 f.kind, .int .i64 f.len, .int .i64 f.loc, .int .i64 f.body.op, .int .i64 f.body.at', .int .i64 f.body.n, .int .i64 f.body.m, .string f.body.s, u]
abbrev sU (p : F × Value) : List Value := dS p.1 p.2
def Fs (μ : Mem) (A : Option Addr) (n : Nat) (ps : List (F × Value)) : Prop := Sl sU 10 μ A n ps ∧ n ≤ 100000 ∧ ∀ p ∈ ps, KR μ p.1.body.kids p.2 ∧ p.1.body.size ≤ 100000
theorem Fs.mono {μ μ' : Mem} {A : Option Addr} {n : Nat} {ps : List (F × Value)} (h : Fs μ A n ps) (hle : MLe μ μ') : Fs μ' A n ps := ⟨h.1.mono hle, h.2.1, fun p hp => ⟨(h.2.2 p hp).1.mono hle, (h.2.2 p hp).2⟩⟩
def SmF (f g : F) : Prop := f.name = g.name ∧ f.kind = g.kind ∧ f.len = g.len ∧ f.loc = g.loc ∧ Sm f.body g.body
def SmU (ps qs : List (F × Value)) : Prop := ps.length = qs.length ∧ ∀ (i : Nat) (p q : F × Value), ps[i]? = some p → qs[i]? = some q → SmF p.1 q.1
noncomputable def tK (f g : F) : Bool := dB (SmF f g)
noncomputable def zX (l m : List (F × Value)) : Bool := dB (SmU l m)
theorem wK {a b : F} (h : ¬SmF a b) : tK a b = false := by unfold tK; exact aFi h
theorem ND {a b : F} (h : tK a b = false) : ¬SmF a b := by unfold tK at h; exact LX h
theorem YB {a b : List (F × Value)} (h : SmU a b) : zX a b = true := by unfold zX; exact aGy h
theorem YC {a b : List (F × Value)} (h : ¬SmU a b) : zX a b = false := by unfold zX; exact aFi h
theorem aDi {a b : F} (h : ¬a.name = b.name) : tK a b = false := wK fun e => h e.1
theorem aDh {a b : F} (h : ¬a.kind = b.kind) : tK a b = false := wK fun e => h e.2.1
theorem aDg {a b : F} (h : ¬a.len = b.len) : tK a b = false := wK fun e => h e.2.2.1
theorem aDf {a b : F} (h : ¬a.loc = b.loc) : tK a b = false := wK fun e => h e.2.2.2.1
theorem aF9 {a b : F} (h : smB a.body b.body = false) : tK a b = false := wK fun e => BH h e.2.2.2.2
attribute [local irreducible] smB aBw tK zX G GC GQ GA bO Calls IntKind.wrap Int.decLt Int.decLe
end eq2
section eq3
open Go.RowKit Go.Vcg
theorem aEd {a b : T} (h : ¬a.kids.length = b.kids.length) : smB a b = false := BI fun e => h (oJ.1 e).2.2.2.2.1
attribute [local irreducible] smB aBw tK zX G GC GQ GA bO Calls IntKind.wrap Int.decLt Int.decLe
theorem FA (a : T) : aFs 37 a := by
  refine T.aE5 (fun a ih => ?_) a
  intro s w μ u v hμ hu hv hsa hsb
  refine aC Tryz.func37 rfl Tryz.ntmps37 (by simp) hμ ?_
  have ha := sK a
  have hb := sK s
  have hk : ∀ (t : T), t.size ≤ 100000 → ∀ k ∈ t.kids, T.size k ≤ 100000 := fun t ht k hk => by
    obtain ⟨i, hi⟩ := List.mem_iff_getElem?.1 hk
    have := T.oK hi
    omega
  obtain ⟨A, c, rfl, _, cL⟩ := hu.form
  obtain ⟨A2, c2, rfl, _, hget2⟩ := hv.form
  repeat' (first | refine KK ?_ | refine NB fun b => ?_ | (refine KB ?_ ?_ <;> intro hp) | refine KG ?_ | fail)
  all_goals try first
    | exact bL rfl (by exact aB rfl) (congrArg _ (aF8 (by assumption)).symm)
    | exact bL rfl (by exact aB rfl) (congrArg _ (aG6 (by assumption)).symm)
    | exact bL rfl (by exact aB rfl) (congrArg _ (aG7 (by assumption)).symm)
    | exact bL rfl (by exact aB rfl) (congrArg _ (aG5 (by assumption)).symm)
    | exact bL rfl (by exact aB rfl) (congrArg _ (aEd (by omega)).symm)
  rename_i b1 q1 q2 q3 q4
  have h1 : a.op = s.op := Classical.not_not.1 q1
  have h2 : a.n = s.n := Classical.not_not.1 q2
  have h3 : a.m = s.m := Classical.not_not.1 q3
  have h4 : a.s = s.s := Classical.not_not.1 q4
  have h5 : a.kids.length = s.kids.length := by omega
  refine aX (ι := Nat) (fun k => k ≤ s.kids.length ∧ ∀ (j : Nat) (x y : T), j < k → a.kids[j]? = some x → s.kids[j]? = some y → Sm x y) (fun k => s.kids.length - k) (fun _ => μ) (fun k => [(5, .int .i64 k), (3, .pointer (some ⟨b, 0, none⟩)), (2, .pointer (some ⟨b1, 0, none⟩))]) (fun _ => [.inl ⟨b, 42, 6, _⟩, .inl ⟨b1, 42, 6, _⟩]) 0 ⟨by omega, fun j _ _ h => absurd h (by omega)⟩ (fun a w hs => J6 hs) ?_
  rintro k ⟨hk1, hkk⟩
  by_cases hlt : k < s.kids.length
  · have hka : a.kids[k]? = some a.kids[k] := List.getElem?_eq_getElem (by omega)
    have hkb : s.kids[k]? = some s.kids[k] := List.getElem?_eq_getElem hlt
    generalize a.kids[k] = t at hka
    generalize s.kids[k] = r at hkb
    obtain ⟨ad, x, rfl, hm, ho, hkr⟩ := cL k _ hka
    obtain ⟨ad2, x2, rfl, hm2, ho2, hkr2⟩ := hget2 k _ hkb
    have this : ∀ (w : World) (μc : Mem), MOk μc w → MLe μ μc → Calls Tryz.prog 37 #[.agg (aR t x).toArray, .agg (aR r x2).toArray] w fun e w' => e = .returned (.bool (smB t r)) ∧ Below w.heap.size w w' :=
      fun w μc hw hle => ih t (List.mem_of_getElem? hka) r w μc x x2 hw (hkr.mono hle) (hkr2.mono hle) (hk a hsa _ (List.mem_of_getElem? hka)) (hk s hsb _ (List.mem_of_getElem? hkb))
    cases hc : smB t r
    · rw [hc] at this
      repeat' (first | refine KK ?_ | fail)
      refine aN 12 _ (by kernel_rfl) rfl (List.Sublist.cons_cons _ (List.Sublist.cons_cons _ (List.nil_sublist _))) ?_
      all_goals (first | refine D1 0 ?_ | fail)
      all_goals (first | refine DD 1 ?_ | fail)
      all_goals refine DD 2 ?_
      all_goals (first | (refine DV (k := 3) (b := by exact U1 k) (c := ?_)) | fail)
      all_goals (first | (refine DV (k := 4) (b := by exact U4 hm) (c := ?_)) | fail)
      all_goals (first | refine D1 5 ?_ | fail)
      all_goals (first | refine DD 6 ?_ | fail)
      all_goals refine DD 7 ?_
      all_goals (first | (refine DV (k := 8) (b := by exact U1 k) (c := ?_)) | fail)
      all_goals (first | (refine DV (k := 9) (b := by exact U4 hm2) (c := ?_)) | fail)
      all_goals ((refine D3 10 ?_; refine D5 ?_; (with_reducible apply C1); exact rfl; exact EN; exact fun w μc hw hse => this w μc hw hse.le; refine D9 ?_))
      all_goals refine DD 11 ?_
      all_goals refine D8 ?_
      repeat' (first | refine KK ?_ | fail)
      refine bL rfl (by exact aB rfl) (congrArg _ (BI fun h => BH hc ((oJ.1 h).2.2.2.2.2 k t r hka hkb)).symm)
    · rw [hc] at this
      repeat' (first | refine KK ?_ | fail)
      refine aN 12 _ (by kernel_rfl) rfl (List.Sublist.cons_cons _ (List.Sublist.cons_cons _ (List.nil_sublist _))) ?_
      all_goals (first | refine D1 0 ?_ | fail)
      all_goals (first | refine DD 1 ?_ | fail)
      all_goals refine DD 2 ?_
      all_goals (first | (refine DV (k := 3) (b := by exact U1 k) (c := ?_)) | fail)
      all_goals (first | (refine DV (k := 4) (b := by exact U4 hm) (c := ?_)) | fail)
      all_goals (first | refine D1 5 ?_ | fail)
      all_goals (first | refine DD 6 ?_ | fail)
      all_goals refine DD 7 ?_
      all_goals (first | (refine DV (k := 8) (b := by exact U1 k) (c := ?_)) | fail)
      all_goals (first | (refine DV (k := 9) (b := by exact U4 hm2) (c := ?_)) | fail)
      all_goals ((refine D3 10 ?_; refine D5 ?_; (with_reducible apply C1); exact rfl; exact EN; exact fun w μc hw hse => this w μc hw hse.le; refine D9 ?_))
      all_goals refine DD 11 ?_
      all_goals refine D8 ?_
      repeat' (first | refine KK ?_ | fail)
      refine J4 (k + 1) ⟨by omega, fun j y z hj hy hz => ?_⟩ (by omega)
      rcases Nat.lt_or_ge j k with h | h
      · exact hkk j y z h hy hz
      · have : j = k := by omega
        subst this
        rw [hka] at hy
        rw [hkb] at hz
        cases hy
        cases hz
        exact HR hc
  · repeat' (first | refine KK ?_ | fail)
    refine bL rfl (by exact aB rfl) (congrArg _ (aGa (oJ.2 ⟨h1, h2, h3, h4, h5, fun j x y hx hy => hkk j x y ?_ hx hy⟩)).symm)
    have := (List.getElem?_eq_some_iff.1 hx).1
    omega
theorem EZ (ps qs : List (F × Value)) (A A2 : Option Addr) (c c2 : Nat) (w : World) (μ : Mem) (hμ : MOk μ w) (hp' : Fs μ A ps.length ps) (hq' : Fs μ A2 qs.length qs) :
    Calls Tryz.prog 15 #[.agg #[.slice A ps.length c], .agg #[.slice A2 qs.length c2]] w fun e w' => e = .returned (.bool (zX ps qs)) ∧ Below w.heap.size w w' := by
  obtain ⟨hS, hn, hk⟩ := hp'
  obtain ⟨hS2, hn2, hk2⟩ := hq'
  refine aC (args := [.agg #[.slice A ps.length c], .agg #[.slice A2 qs.length c2]]) Tryz.func15 rfl Tryz.ntmps15 (by simp) hμ ?_
  repeat' (first | refine KK ?_ | refine NB fun b => ?_ | (refine KB ?_ ?_ <;> intro hp) | fail)
  · exact bL rfl (by exact aB rfl) (congrArg _ (YC fun h => absurd h.1 (by omega)).symm)
  rename_i b1
  have hl : ps.length = qs.length := by omega
  refine aX (ι := Nat) (fun k => k ≤ qs.length ∧ ∀ (j : Nat) (x y : F × Value), j < k → ps[j]? = some x → qs[j]? = some y → SmF x.1 y.1) (fun k => qs.length - k) (fun _ => μ) (fun k => [(5, .int .i64 k), (3, .pointer (some ⟨b, 0, none⟩)), (2, .pointer (some ⟨b1, 0, none⟩))]) (fun _ => [.inl ⟨b, 27, 1, _⟩, .inl ⟨b1, 27, 1, _⟩]) 0 ⟨by omega, fun j _ _ h => absurd h (by omega)⟩ (fun a w hs => J6 hs) ?_
  rintro k ⟨hk1, hkk⟩
  by_cases hlt : k < qs.length
  · obtain ⟨ad, t, rfl, hka, hm⟩ := hS.get (show k < ps.length by omega)
    obtain ⟨ad2, s, rfl, hkb, hm2⟩ := hS2.get hlt
    have q1 := hk t (List.mem_of_getElem? hka)
    have q2 := hk2 s (List.mem_of_getElem? hkb)
    have ho := q1.1.one
    have ho2 := q2.1.one
    have this : ∀ (w : World) (μc : Mem), MOk μc w → MLe μ μc → Calls Tryz.prog 37 #[.agg (aR t.1.body t.2).toArray, .agg (aR s.1.body s.2).toArray] w fun e w' => e = .returned (.bool (smB t.1.body s.1.body)) ∧ Below w.heap.size w w' :=
      fun w μc hw hle => FA t.1.body s.1.body w μc t.2 s.2 hw (q1.1.mono hle) (q2.1.mono hle) q1.2 q2.2
    have back : ∀ {h1 : t.1.name = s.1.name} {h2 : t.1.kind = s.1.kind} {h3 : t.1.len = s.1.len} {h4 : t.1.loc = s.1.loc}, smB t.1.body s.1.body = true → (k + 1 ≤ qs.length ∧ ∀ (j : Nat) (x y : F × Value), j < k + 1 → ps[j]? = some x → qs[j]? = some y → SmF x.1 y.1) := fun {h1 h2 h3 h4} hc => ⟨by omega, fun j y z hj hy hz => by
      rcases Nat.lt_or_ge j k with h | h
      · exact hkk j y z h hy hz
      · have : j = k := by omega
        subst this
        rw [hka] at hy
        rw [hkb] at hz
        cases hy
        cases hz
        exact ⟨h1, h2, h3, h4, HR hc⟩⟩
    have no : tK t.1 s.1 = false → zX ps qs = false := fun hc => YC fun h => ND hc (h.2 k t s hka hkb)
    cases hc : smB t.1.body s.1.body
    · rw [hc] at this
      repeat' (first | refine KO ?_ | ((with_reducible apply C1); exact rfl; exact EN; exact fun w μc hw hse => this w μc hw hse.le) | (refine KV (b := by first | exact U1 k | exact U4 hm | exact U4 hm2) (c := ?_)) | refine KI ?_ | refine NB fun b => ?_ | (refine KB ?_ ?_ <;> intro hp) | refine KG ?_ | fail)
      all_goals first
        | exact bL rfl (by exact aB rfl) (congrArg _ (no (aDi (by assumption))).symm)
        | exact bL rfl (by exact aB rfl) (congrArg _ (no (aDh (by assumption))).symm)
        | exact bL rfl (by exact aB rfl) (congrArg _ (no (aDg (by assumption))).symm)
        | exact bL rfl (by exact aB rfl) (congrArg _ (no (aDf (by assumption))).symm)
        | exact bL rfl (by exact aB rfl) (congrArg _ (no (aF9 (by assumption))).symm)
    · rw [hc] at this
      repeat' (first | refine KO ?_ | ((with_reducible apply C1); exact rfl; exact EN; exact fun w μc hw hse => this w μc hw hse.le) | (refine KV (b := by first | exact U1 k | exact U4 hm | exact U4 hm2) (c := ?_)) | refine KI ?_ | refine NB fun b => ?_ | (refine KB ?_ ?_ <;> intro hp) | refine KG ?_ | fail)
      all_goals first
        | exact bL rfl (by exact aB rfl) (congrArg _ (no (aDi (by assumption))).symm)
        | exact bL rfl (by exact aB rfl) (congrArg _ (no (aDh (by assumption))).symm)
        | exact bL rfl (by exact aB rfl) (congrArg _ (no (aDg (by assumption))).symm)
        | exact bL rfl (by exact aB rfl) (congrArg _ (no (aDf (by assumption))).symm)
        | skip
      rename_i q1 q2 q3
      refine J4 (k + 1) (back (h1 := Classical.not_not.1 q1) (h2 := Classical.not_not.1 q2) (h3 := Classical.not_not.1 q3) (h4 := Classical.not_not.1 hp) hc) (by omega)
  · repeat' (first | refine KK ?_ | fail)
    refine bL rfl (by exact aB rfl) (congrArg _ (YB ⟨hl, fun j x y hx hy => hkk j x y ?_ hx hy⟩).symm)
    have := (List.getElem?_eq_some_iff.1 hx).1
    omega
end eq3
end
end Go.Proofs.YtoclmkdfcafhfaaGreatDoor
