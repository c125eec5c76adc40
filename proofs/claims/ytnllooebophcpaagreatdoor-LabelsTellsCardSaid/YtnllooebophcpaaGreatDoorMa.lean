/- Package labels' Of as plain functions on trees. (and what leans on it). No statement of the seat is proved here. -/
import Derived.Test.YtnllooebophcpaaGreatDoorTree
set_option maxRecDepth 20000
namespace Go.Proofs.YtnllooebophcpaaGreatDoor
open Go.RowKit Go.Vcg
structure LS where
  next : Nat
  marks : List (Int × Int × Int)
  jumps : List (Int × Int)
structure LB where
  s : ByteArray
  brk : Int
  again : Int
structure LP where
  brk : Int
  again : Int
  ls : List LB
abbrev LRes := Except (Int × Int) LS
def findL (ls : List LB) (s : ByteArray) : Option LB := ls.reverse.find? fun l => decide (l.s = s)
def loopT (t : T) : Bool := decide (10 ≤ t.op) && decide (t.op ≤ 14)
def loopsF : Nat → T → Bool
  | 0, _ => false
  | n + 1, t => if t.op = 23 then (match t.kids with | k :: _ => loopsF n k | [] => false) else loopT t
def chainN : Nat → T → Nat
  | 0, _ => 0
  | n + 1, t => if t.op = 23 then (match t.kids with | k :: _ => chainN n k + 1 | [] => 1) else 0
def toF (t : T) (brk again : Int) : Int := if t.op = 16 then again else brk
def LS.jump (s : LS) (at' to : Int) : LS := ⟨s.next, s.marks, s.jumps ++ [(at', to)]⟩
def jumpF (t : T) (p : LP) (s : LS) : LRes :=
  if t.s.size = 0 then (if toF t p.brk p.again < 0 then .error (t.at', 32) else .ok (s.jump t.at' (toF t p.brk p.again)))
  else match findL p.ls t.s with
    | none => .error (t.at', 31)
    | some l => if toF t l.brk l.again < 0 then .error (t.at', 32) else .ok (s.jump t.at' (toF t l.brk l.again))
def kidsF (f : T → LP → LS → LRes) : List T → LP → LS → LRes
  | [], _, s => .ok s
  | k :: r, p, s => match f k p s with
    | .ok s' => kidsF f r p s'
    | .error e => .error e
def partK (i at' : Nat) (p q : LP) : LP := if i = at' then q else p
def aroundK (f : T → LP → LS → LRes) (at' : Nat) (p q : LP) : Nat → List T → LS → LRes
  | _, [], s => .ok s
  | i, k :: r, s => match f k (partK i at' p q) s with
    | .ok s' => aroundK f at' p q (i + 1) r s'
    | .error e => .error e
def bodyAt (t : T) : Nat := if t.op = 14 then 0 else t.kids.length - 1
def aroundF (f : T → LP → LS → LRes) (t : T) (p : LP) (s : LS) : LRes :=
  aroundK f (bodyAt t) p ⟨s.next, s.next + 1, p.ls⟩ 0 t.kids ⟨s.next + 2, s.marks ++ [(t.at', (s.next : Int), (s.next : Int) + 1)], s.jumps⟩
def labOf (n : Nat) (t : T) (s : LS) : LB := ⟨t.s, s.next, if loopsF (n + 1) t then (s.next + 1 + chainN (n + 1) t : Nat) else -1⟩
def LS.mark (s : LS) (at' : Int) : LS := ⟨s.next + 1, s.marks ++ [(at', (s.next : Int), -1)], s.jumps⟩
def nodeF : Nat → T → LP → LS → LRes
  | 0, _, _, s => .ok s
  | n + 1, t, p, s =>
    if t.op = 4 then .ok s
    else if t.op = 15 ∨ t.op = 16 then jumpF t p s
    else if t.op = 23 then
      match findL p.ls t.s with
      | some _ => .error (t.at', 31)
      | none => kidsF (nodeF n) (t.kids.take 1) ⟨p.brk, p.again, p.ls ++ [labOf n t s]⟩ (s.mark t.at')
    else if t.op = 21 then
      match kidsF (nodeF n) (t.kids.take 1) p s with
      | .error e => .error e
      | .ok s1 => kidsF (nodeF n) (t.kids.drop 1) ⟨s1.next, p.again, p.ls⟩ (s1.mark t.at')
    else if loopT t then aroundF (nodeF n) t p s
    else kidsF (nodeF n) t.kids p s
structure Grew (s s' : LS) (m : Nat) : Prop where
  lo : s.next ≤ s'.next
  hi : s'.next ≤ s.next + 2 * m
  marks : s'.marks.length ≤ s.marks.length + m
  jumps : s'.jumps.length ≤ s.jumps.length + m
theorem Grew.refl (s : LS) (m : Nat) : Grew s s m := ⟨Nat.le_refl _, by omega, by omega, by omega⟩
theorem Grew.trans {a b c : LS} {m n k : Nat} (h : Grew a b m) (h' : Grew b c n) (hk : m + n ≤ k) : Grew a c k := by
  obtain ⟨h1, h2, h3, h4⟩ := h
  obtain ⟨g1, g2, g3, g4⟩ := h'
  exact ⟨by omega, by omega, by omega, by omega⟩
theorem kidsF_ind {f : T → LP → LS → LRes} {p : LP} (R : LS → LS → List T → Prop) (h0 : ∀ s, R s s []) (h1 : ∀ k r s s1 s2, f k p s = .ok s1 → kidsF f r p s1 = .ok s2 → R s1 s2 r → R s s2 (k :: r)) :
    ∀ ks s s', kidsF f ks p s = .ok s' → R s s' ks
  | [], s, s', h => by cases h; exact h0 s
  | k :: r, s, s', h => by
    unfold kidsF at h
    split at h
    · rename_i s1 e
      exact h1 k r s s1 s' e h (kidsF_ind R h0 h1 r s1 s' h)
    · cases h
theorem aroundK_ind {f : T → LP → LS → LRes} {at' : Nat} {p q : LP} (R : LS → LS → List T → Prop) (h0 : ∀ s, R s s []) (h1 : ∀ k r s s1 s2 i, f k (partK i at' p q) s = .ok s1 → R s1 s2 r → R s s2 (k :: r)) :
    ∀ ks i s s', aroundK f at' p q i ks s = .ok s' → R s s' ks
  | [], i, s, s', h => by cases h; exact h0 s
  | k :: r, i, s, s', h => by
    unfold aroundK at h
    split at h
    · rename_i s1 e
      exact h1 k r s s1 s' i e (aroundK_ind R h0 h1 r (i + 1) s1 s' h)
    · cases h
def szs (ks : List T) : Nat := (ks.map T.size).sum
theorem szs_cons (k : T) (r : List T) : szs (k :: r) = k.size + szs r := by simp [szs]
theorem szs_take_drop (ks : List T) (i : Nat) : szs (ks.take i) + szs (ks.drop i) = szs ks := by
  rw [← List.take_append_drop i ks]
  simp [szs, ← List.sum_append, ← List.map_append]
theorem T.size_kids (t : T) : t.size = 1 + szs t.kids := T.size_eq t
theorem kidsF_grew {f : T → LP → LS → LRes} {p : LP} (hf : ∀ t s s', f t p s = .ok s' → Grew s s' t.size) : ∀ ks s s', kidsF f ks p s = .ok s' → Grew s s' (szs ks) :=
  kidsF_ind (fun s s' ks => Grew s s' (szs ks)) (fun s => Grew.refl s _) fun k r s s1 s2 e _ h => (hf k s s1 e).trans h (by rw [szs_cons]; omega)
theorem mark_grew (s : LS) (a : Int) : Grew s (s.mark a) 1 := ⟨by simp [LS.mark], by simp [LS.mark], by simp [LS.mark], by simp [LS.mark]⟩
theorem nodeF_grew : ∀ (n : Nat) (t : T) (p : LP) (s s' : LS), nodeF n t p s = .ok s' → Grew s s' t.size
  | 0, t, p, s, s', h => by cases h; exact Grew.refl s _
  | n + 1, t, p, s, s', h => by
    have hk : ∀ p ks s s', kidsF (nodeF n) ks p s = .ok s' → Grew s s' (szs ks) := fun p => kidsF_grew fun t s s' => nodeF_grew n t p s s'
    have hsz := t.size_kids
    have h1 := T.size_eq t
    unfold nodeF at h
    split at h
    · cases h; exact Grew.refl s _
    split at h
    · unfold jumpF at h
      have hj : ∀ a to, Grew s (s.jump a to) t.size := fun a to => ⟨by simp [LS.jump], by simp [LS.jump], by simp [LS.jump], by simp [LS.jump]; omega⟩
      split at h
      · split at h
        · cases h
        · cases h; exact hj _ _
      · split at h
        · cases h
        · split at h
          · cases h
          · cases h; exact hj _ _
    split at h
    · split at h
      · cases h
      · have h2 := hk _ _ _ _ h
        have h3 := szs_take_drop t.kids 1
        exact (mark_grew s _).trans h2 (by omega)
    split at h
    · split at h
      · cases h
      · rename_i s1 e
        have h3 := szs_take_drop t.kids 1
        exact ((hk _ _ _ _ e).trans (mark_grew s1 t.at') (Nat.le_refl _)).trans (hk _ _ _ _ h) (by omega)
    split at h
    · have h2 := aroundK_ind (fun s s' ks => Grew s s' (szs ks)) (fun s => Grew.refl s _) (fun k r s s1 s2 i e hh => (nodeF_grew n k _ s s1 e).trans hh (by rw [szs_cons]; omega)) _ _ _ _ h
      obtain ⟨a1, a2, a3, a4⟩ := h2
      dsimp only at a1 a2 a3 a4
      simp at a3
      exact ⟨by omega, by omega, by omega, by omega⟩
    · have h2 := hk _ _ _ _ h
      exact (Grew.refl s 0).trans h2 (by omega)
end Go.Proofs.YtnllooebophcpaaGreatDoor
set_option maxRecDepth 20000
namespace Go.Proofs.YtnllooebophcpaaGreatDoor
open Go.RowKit Go.Vcg
def BndJ (s : LS) (B : Int) : Prop := ∀ j ∈ s.jumps, 0 ≤ j.2 ∧ j.2 < B
structure PlB (p : LP) (B : Int) : Prop where
  brk : p.brk < B
  again : p.again < B
  ls : ∀ l ∈ p.ls, l.brk < B ∧ l.again < B
theorem BndJ.le {s : LS} {B C : Int} (h : BndJ s B) (hle : B ≤ C) : BndJ s C := fun j hj => ⟨(h j hj).1, Int.lt_of_lt_of_le (h j hj).2 hle⟩
theorem PlB.le {p : LP} {B C : Int} (h : PlB p B) (hle : B ≤ C) : PlB p C := ⟨Int.lt_of_lt_of_le h.brk hle, Int.lt_of_lt_of_le h.again hle, fun l hl => ⟨Int.lt_of_lt_of_le (h.ls l hl).1 hle, Int.lt_of_lt_of_le (h.ls l hl).2 hle⟩⟩
def S0 : LS := ⟨0, [], []⟩
def P0 : LP := ⟨-1, -1, []⟩
def ofF (n : Nat) (t : T) : LRes := kidsF (nodeF n) t.kids P0 S0
theorem ofF_grew {n : Nat} {t : T} {s : LS} (h : ofF n t = .ok s) : s.next ≤ 2 * t.size ∧ s.marks.length ≤ t.size ∧ s.jumps.length ≤ t.size := by
  obtain ⟨h1, h2, h3, h4⟩ := kidsF_grew (fun t s s' => nodeF_grew n t P0 s s') _ _ _ h
  have := t.size_kids
  simp [S0] at *
  omega
section
variable {d : Nat} {M : List (Int × Int × Int)} {J : List (Int × Int)}
end
theorem kidsF_append {f : T → LP → LS → LRes} {p : LP} : ∀ (a b : List T) (s : LS), kidsF f (a ++ b) p s = match kidsF f a p s with | .ok s1 => kidsF f b p s1 | .error e => .error e
  | [], b, s => rfl
  | k :: r, b, s => by
    simp only [List.cons_append, kidsF]
    cases f k p s with
    | ok s1 => exact kidsF_append r b s1
    | error e => rfl
end Go.Proofs.YtnllooebophcpaaGreatDoor
