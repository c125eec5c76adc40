/- Package labels' Of as plain functions on trees. (and what leans on it). No statement of the seat is proved here. -/
import Derived.Test.YtnllooebophcpaaDoorTree
set_option maxRecDepth 20000
namespace Go.Proofs.YtnllooebophcpaaDoor
open Go.RowKit Go.Vcg
structure LS where
  next : Nat
  marks : List (Int × Int × Int)
  jumps : List (Int × Int)
structure LB where
  s : ByteArray
  brk : Int
  again : Int
structure LP where
  brk : Int
  again : Int
  ls : List LB
abbrev LRes := Except (Int × Int) LS
def findL (ls : List LB) (s : ByteArray) : Option LB := ls.reverse.find? fun l => decide (l.s = s)
def loopT (t : T) : Bool := decide (10 ≤ t.op) && decide (t.op ≤ 14)
def loopsF : Nat → T → Bool
  | 0, _ => false
  | n + 1, t => if t.op = 23 then (match t.kids with | k :: _ => loopsF n k | [] => false) else loopT t
def chainN : Nat → T → Nat
  | 0, _ => 0
  | n + 1, t => if t.op = 23 then (match t.kids with | k :: _ => chainN n k + 1 | [] => 1) else 0
def toF (t : T) (brk again : Int) : Int := if t.op = 16 then again else brk
def LS.jump (s : LS) (at' to : Int) : LS := ⟨s.next, s.marks, s.jumps ++ [(at', to)]⟩
def jumpF (t : T) (p : LP) (s : LS) : LRes :=
  if t.s.size = 0 then (if toF t p.brk p.again < 0 then .error (t.at', 32) else .ok (s.jump t.at' (toF t p.brk p.again)))
  else match findL p.ls t.s with
    | none => .error (t.at', 31)
    | some l => if toF t l.brk l.again < 0 then .error (t.at', 32) else .ok (s.jump t.at' (toF t l.brk l.again))
def kidsF (f : T → LP → LS → LRes) : List T → LP → LS → LRes
  | [], _, s => .ok s
  | k :: r, p, s => match f k p s with
    | .ok s' => kidsF f r p s'
    | .error e => .error e
def partK (i at' : Nat) (p q : LP) : LP := if i = at' then q else p
def aroundK (f : T → LP → LS → LRes) (at' : Nat) (p q : LP) : Nat → List T → LS → LRes
  | _, [], s => .ok s
  | i, k :: r, s => match f k (partK i at' p q) s with
    | .ok s' => aroundK f at' p q (i + 1) r s'
    | .error e => .error e
def bodyAt (t : T) : Nat := if t.op = 14 then 0 else t.kids.length - 1
def aroundF (f : T → LP → LS → LRes) (t : T) (p : LP) (s : LS) : LRes :=
  aroundK f (bodyAt t) p ⟨s.next, s.next + 1, p.ls⟩ 0 t.kids ⟨s.next + 2, s.marks ++ [(t.at', (s.next : Int), (s.next : Int) + 1)], s.jumps⟩
def labOf (n : Nat) (t : T) (s : LS) : LB := ⟨t.s, s.next, if loopsF (n + 1) t then (s.next + 1 + chainN (n + 1) t : Nat) else -1⟩
def LS.mark (s : LS) (at' : Int) : LS := ⟨s.next + 1, s.marks ++ [(at', (s.next : Int), -1)], s.jumps⟩
def nodeF : Nat → T → LP → LS → LRes
  | 0, _, _, s => .ok s
  | n + 1, t, p, s =>
    if t.op = 4 then .ok s
    else if t.op = 15 ∨ t.op = 16 then jumpF t p s
    else if t.op = 23 then
      match findL p.ls t.s with
      | some _ => .error (t.at', 31)
      | none => kidsF (nodeF n) (t.kids.take 1) ⟨p.brk, p.again, p.ls ++ [labOf n t s]⟩ (s.mark t.at')
    else if t.op = 21 then
      match kidsF (nodeF n) (t.kids.take 1) p s with
      | .error e => .error e
      | .ok s1 => kidsF (nodeF n) (t.kids.drop 1) ⟨s1.next, p.again, p.ls⟩ (s1.mark t.at')
    else if loopT t then aroundF (nodeF n) t p s
    else kidsF (nodeF n) t.kids p s
structure Grew (s s' : LS) (m : Nat) : Prop where
  lo : s.next ≤ s'.next
  hi : s'.next ≤ s.next + 2 * m
  marks : s'.marks.length ≤ s.marks.length + m
  jumps : s'.jumps.length ≤ s.jumps.length + m
theorem Grew.refl (s : LS) (m : Nat) : Grew s s m := ⟨Nat.le_refl _, by omega, by omega, by omega⟩
theorem Grew.trans {a b c : LS} {m n k : Nat} (h : Grew a b m) (h' : Grew b c n) (hk : m + n ≤ k) : Grew a c k := by
  obtain ⟨h1, h2, h3, h4⟩ := h
  obtain ⟨g1, g2, g3, g4⟩ := h'
  exact ⟨by omega, by omega, by omega, by omega⟩
theorem kidsF_ind {f : T → LP → LS → LRes} {p : LP} (R : LS → LS → List T → Prop) (h0 : ∀ s, R s s []) (h1 : ∀ k r s s1 s2, f k p s = .ok s1 → kidsF f r p s1 = .ok s2 → R s1 s2 r → R s s2 (k :: r)) :
    ∀ ks s s', kidsF f ks p s = .ok s' → R s s' ks
  | [], s, s', h => by cases h; exact h0 s
  | k :: r, s, s', h => by
    unfold kidsF at h
    split at h
    · rename_i s1 e
      exact h1 k r s s1 s' e h (kidsF_ind R h0 h1 r s1 s' h)
    · cases h
theorem aroundK_ind {f : T → LP → LS → LRes} {at' : Nat} {p q : LP} (R : LS → LS → List T → Prop) (h0 : ∀ s, R s s []) (h1 : ∀ k r s s1 s2 i, f k (partK i at' p q) s = .ok s1 → R s1 s2 r → R s s2 (k :: r)) :
    ∀ ks i s s', aroundK f at' p q i ks s = .ok s' → R s s' ks
  | [], i, s, s', h => by cases h; exact h0 s
  | k :: r, i, s, s', h => by
    unfold aroundK at h
    split at h
    · rename_i s1 e
      exact h1 k r s s1 s' i e (aroundK_ind R h0 h1 r (i + 1) s1 s' h)
    · cases h
def szs (ks : List T) : Nat := (ks.map T.size).sum
theorem szs_cons (k : T) (r : List T) : szs (k :: r) = k.size + szs r := by simp [szs]
theorem szs_take_drop (ks : List T) (i : Nat) : szs (ks.take i) + szs (ks.drop i) = szs ks := by
  rw [← List.take_append_drop i ks]
  simp [szs, ← List.sum_append, ← List.map_append]
theorem T.size_kids (t : T) : t.size = 1 + szs t.kids := T.size_eq t
theorem kidsF_grew {f : T → LP → LS → LRes} {p : LP} (hf : ∀ t s s', f t p s = .ok s' → Grew s s' t.size) : ∀ ks s s', kidsF f ks p s = .ok s' → Grew s s' (szs ks) :=
  kidsF_ind (fun s s' ks => Grew s s' (szs ks)) (fun s => Grew.refl s _) fun k r s s1 s2 e _ h => (hf k s s1 e).trans h (by rw [szs_cons]; omega)
theorem mark_grew (s : LS) (a : Int) : Grew s (s.mark a) 1 := ⟨by simp [LS.mark], by simp [LS.mark], by simp [LS.mark], by simp [LS.mark]⟩
theorem nodeF_grew : ∀ (n : Nat) (t : T) (p : LP) (s s' : LS), nodeF n t p s = .ok s' → Grew s s' t.size
  | 0, t, p, s, s', h => by cases h; exact Grew.refl s _
  | n + 1, t, p, s, s', h => by
    have hk : ∀ p ks s s', kidsF (nodeF n) ks p s = .ok s' → Grew s s' (szs ks) := fun p => kidsF_grew fun t s s' => nodeF_grew n t p s s'
    have hsz := t.size_kids
    have h1 := T.size_eq t
    unfold nodeF at h
    split at h
    · cases h; exact Grew.refl s _
    split at h
    · unfold jumpF at h
      have hj : ∀ a to, Grew s (s.jump a to) t.size := fun a to => ⟨by simp [LS.jump], by simp [LS.jump], by simp [LS.jump], by simp [LS.jump]; omega⟩
      split at h
      · split at h
        · cases h
        · cases h; exact hj _ _
      · split at h
        · cases h
        · split at h
          · cases h
          · cases h; exact hj _ _
    split at h
    · split at h
      · cases h
      · have h2 := hk _ _ _ _ h
        have h3 := szs_take_drop t.kids 1
        exact (mark_grew s _).trans h2 (by omega)
    split at h
    · split at h
      · cases h
      · rename_i s1 e
        have h3 := szs_take_drop t.kids 1
        exact ((hk _ _ _ _ e).trans (mark_grew s1 t.at') (Nat.le_refl _)).trans (hk _ _ _ _ h) (by omega)
    split at h
    · have h2 := aroundK_ind (fun s s' ks => Grew s s' (szs ks)) (fun s => Grew.refl s _) (fun k r s s1 s2 i e hh => (nodeF_grew n k _ s s1 e).trans hh (by rw [szs_cons]; omega)) _ _ _ _ h
      obtain ⟨a1, a2, a3, a4⟩ := h2
      dsimp only at a1 a2 a3 a4
      simp at a3
      exact ⟨by omega, by omega, by omega, by omega⟩
    · have h2 := hk _ _ _ _ h
      exact (Grew.refl s 0).trans h2 (by omega)
end Go.Proofs.YtnllooebophcpaaDoor
set_option maxRecDepth 20000
namespace Go.Proofs.YtnllooebophcpaaDoor
open Go.RowKit Go.Vcg
def runM : List (Int × Int × Int) → Int → Option Int
  | [], n => some n
  | m :: r, n => if m.2.1 = n ∧ (m.2.2 = -1 ∨ m.2.2 = n + 1) then runM r (if 0 ≤ m.2.2 then n + 2 else n + 1) else none
theorem runM_append : ∀ (xs ys : List (Int × Int × Int)) (n : Int), runM (xs ++ ys) n = (runM xs n).bind (runM ys)
  | [], ys, n => rfl
  | m :: r, ys, n => by
    simp only [List.cons_append, runM]
    split
    · exact runM_append r ys _
    · rfl
def InvM (s : LS) : Prop := runM s.marks 0 = some (s.next : Int)
def BndJ (s : LS) (B : Int) : Prop := ∀ j ∈ s.jumps, 0 ≤ j.2 ∧ j.2 < B
structure PlB (p : LP) (B : Int) : Prop where
  brk : p.brk < B
  again : p.again < B
  ls : ∀ l ∈ p.ls, l.brk < B ∧ l.again < B
theorem BndJ.le {s : LS} {B C : Int} (h : BndJ s B) (hle : B ≤ C) : BndJ s C := fun j hj => ⟨(h j hj).1, Int.lt_of_lt_of_le (h j hj).2 hle⟩
theorem PlB.le {p : LP} {B C : Int} (h : PlB p B) (hle : B ≤ C) : PlB p C := ⟨Int.lt_of_lt_of_le h.brk hle, Int.lt_of_lt_of_le h.again hle, fun l hl => ⟨Int.lt_of_lt_of_le (h.ls l hl).1 hle, Int.lt_of_lt_of_le (h.ls l hl).2 hle⟩⟩
theorem findL_mem {ls : List LB} {s : ByteArray} {l : LB} (h : findL ls s = some l) : l ∈ ls := by
  have := List.mem_of_find?_eq_some h
  simpa using this
theorem invM_mark {s : LS} (h : InvM s) (a : Int) : InvM (s.mark a) := by
  unfold InvM at *
  show runM (s.marks ++ [(a, (s.next : Int), -1)]) 0 = _
  rw [runM_append, h]
  simp [runM, LS.mark]
theorem bndJ_mark {s : LS} {B : Int} (h : BndJ s B) (a : Int) : BndJ (s.mark a) B := h
def KeepR (s s' : LS) (p : LP) : Prop := s.next ≤ s'.next ∧ ∀ B, InvM s → BndJ s B → PlB p B → InvM s' ∧ BndJ s' (max B s'.next)
theorem kidsF_keep {f : T → LP → LS → LRes} {p : LP} (hf : ∀ t s s', f t p s = .ok s' → KeepR s s' p) : ∀ ks s s', kidsF f ks p s = .ok s' → KeepR s s' p :=
  kidsF_ind (fun s s' _ => KeepR s s' p) (fun s => ⟨Nat.le_refl _, fun B h1 h2 _ => ⟨h1, h2.le (by omega)⟩⟩) fun k r s s1 s2 e _ h => by
    have h1 := hf k s s1 e
    refine ⟨Nat.le_trans h1.1 h.1, fun B a b c => ?_⟩
    obtain ⟨a1, b1⟩ := h1.2 B a b c
    obtain ⟨a2, b2⟩ := h.2 _ a1 b1 (c.le (by omega))
    have := h.1
    exact ⟨a2, b2.le (by omega)⟩
theorem kidsF_one {f : T → LP → LS → LRes} {p : LP} {s s' : LS} {k : T} (h : kidsF f [k] p s = .ok s') : f k p s = .ok s' := by
  unfold kidsF at h
  split at h
  · rename_i e
    cases h; exact e
  · cases h
theorem aroundK_lo {n : Nat} {at' : Nat} {p q : LP} {ks : List T} {i : Nat} {s s' : LS} (h : aroundK (nodeF n) at' p q i ks s = .ok s') : s.next ≤ s'.next :=
  aroundK_ind (fun s s' _ => s.next ≤ s'.next) (fun _ => Nat.le_refl _) (fun k r s s1 s2 i e hh => Nat.le_trans (nodeF_grew n k _ s s1 e).lo hh) _ _ _ _ h
theorem nodeF_chain : ∀ (n : Nat) (t : T) (p : LP) (s s' : LS), nodeF n t p s = .ok s' → loopsF n t = true → s.next + chainN n t + 2 ≤ s'.next
  | 0, t, p, s, s', _, hl => by cases hl
  | n + 1, t, p, s, s', h, hl => by
    unfold loopsF at hl
    unfold chainN
    unfold nodeF at h
    split at hl
    · rename_i h23
      rw [if_pos h23]
      rw [if_neg (by omega), if_neg (by omega), if_pos h23] at h
      split at hl
      · rename_i k r hks
        rw [hks] at h
        split at h
        · cases h
        · have h2 := nodeF_chain n k _ _ _ (kidsF_one h) hl
          have : (s.mark t.at').next = s.next + 1 := rfl
          omega
      · cases hl
    · rename_i h23
      have h10 := hl
      simp only [loopT, Bool.and_eq_true, decide_eq_true_eq] at h10
      rw [if_neg h23]
      rw [if_neg (by omega), if_neg (by omega), if_neg h23, if_neg (by omega), if_pos hl] at h
      have := aroundK_lo h
      dsimp only at this
      omega
theorem keep_jump {s : LS} {p : LP} {a to : Int} (ht : 0 ≤ to) (hB : ∀ B, PlB p B → to < B) : KeepR s (s.jump a to) p := by
  refine ⟨Nat.le_refl _, fun B h1 h2 h3 => ⟨h1, fun j hj => ?_⟩⟩
  rcases List.mem_append.1 hj with hj | hj
  · have := h2 j hj
    exact ⟨this.1, by omega⟩
  · simp at hj
    subst hj
    have := hB B h3
    exact ⟨ht, by dsimp only; omega⟩
theorem nodeF_keep : ∀ (n : Nat) (t : T) (p : LP) (s s' : LS), nodeF n t p s = .ok s' → KeepR s s' p
  | 0, t, p, s, s', h => by cases h; exact ⟨Nat.le_refl _, fun B h1 h2 _ => ⟨h1, h2.le (by omega)⟩⟩
  | n + 1, t, p, s, s', h => by
    have hk : ∀ p ks s s', kidsF (nodeF n) ks p s = .ok s' → KeepR s s' p := fun p => kidsF_keep fun t s s' => nodeF_keep n t p s s'
    have hlo := (nodeF_grew (n + 1) t p s s' h).lo
    unfold nodeF at h
    split at h
    · cases h; exact ⟨Nat.le_refl _, fun B h1 h2 _ => ⟨h1, h2.le (by omega)⟩⟩
    split at h
    · unfold jumpF at h
      split at h
      · split at h
        · cases h
        · cases h
          refine keep_jump (by omega) fun B hB => ?_
          have := hB.brk
          have := hB.again
          unfold toF
          split <;> assumption
      · split at h
        · cases h
        · rename_i l hl
          split at h
          · cases h
          · cases h
            refine keep_jump (by omega) fun B hB => ?_
            have := hB.ls l (findL_mem hl)
            unfold toF
            split
            · exact this.2
            · exact this.1
    split at h
    · rename_i h23
      split at h
      · cases h
      · have h2 := hk _ _ _ _ h
        refine ⟨hlo, fun B a b c => ?_⟩
        have hlo2 := h2.1
        have hnm : (s.mark t.at').next = s.next + 1 := rfl
        have hag : (labOf n t s).again < s'.next := by
          unfold labOf
          dsimp only
          split
          · rename_i hlp
            unfold loopsF at hlp
            rw [if_pos h23] at hlp
            unfold chainN
            rw [if_pos h23]
            split at hlp
            · rename_i k r hks
              rw [hks] at h
              have h3 := nodeF_chain n k _ _ _ (kidsF_one h) hlp
              omega
            · cases hlp
          · omega
        obtain ⟨a2, b2⟩ := h2.2 (max B s'.next) (invM_mark a _) ((bndJ_mark b _).le (by omega)) ⟨by have := c.brk; dsimp only; omega, by have := c.again; dsimp only; omega, fun l hl => by
          rcases List.mem_append.1 hl with hl | hl
          · have := c.ls l hl
            exact ⟨by omega, by omega⟩
          · simp at hl
            subst hl
            refine ⟨?_, by omega⟩
            show (s.next : Int) < _
            omega⟩
        exact ⟨a2, b2.le (by omega)⟩
    split at h
    · split at h
      · cases h
      · rename_i s1 e
        have h1 := hk _ _ _ _ e
        have h2 := hk _ _ _ _ h
        refine ⟨hlo, fun B a b c => ?_⟩
        obtain ⟨a1, b1⟩ := h1.2 B a b c
        have hnm : (s1.mark t.at').next = s1.next + 1 := rfl
        have h22 := h2.1
        obtain ⟨a2, b2⟩ := h2.2 (max B s'.next) (invM_mark a1 _) ((bndJ_mark b1 _).le (by omega)) ⟨by dsimp only; omega, by have := c.again; dsimp only; omega, fun l hl => by have := c.ls l hl; exact ⟨by omega, by omega⟩⟩
        exact ⟨a2, b2.le (by omega)⟩
    split at h
    · refine ⟨hlo, fun B a b c => ?_⟩
      have hl2 := aroundK_lo h
      dsimp only at hl2
      have a0 : InvM ⟨s.next + 2, s.marks ++ [(t.at', (s.next : Int), (s.next : Int) + 1)], s.jumps⟩ := by
        unfold InvM at *
        dsimp only
        rw [runM_append, a]
        simp [runM]
        omega
      have key := aroundK_ind (f := nodeF n) (at' := bodyAt t) (p := p) (q := ⟨s.next, s.next + 1, p.ls⟩) (fun s1 s2 _ => s1.next ≤ s2.next ∧ ∀ C : Int, (s.next : Int) + 2 ≤ C → B ≤ C → InvM s1 → BndJ s1 C → InvM s2 ∧ BndJ s2 (max C s2.next)) (fun s => ⟨Nat.le_refl _, fun C _ _ h1 h2 => ⟨h1, h2.le (by omega)⟩⟩)
        (fun k r s0 s1 s2 i e hh => by
          have h1 := nodeF_keep n k _ s0 s1 e
          refine ⟨Nat.le_trans h1.1 hh.1, fun C hC hC2 x y => ?_⟩
          obtain ⟨x1, y1⟩ := h1.2 C x y (by
            unfold partK
            split
            · exact ⟨by dsimp only; omega, by dsimp only; omega, fun l hl => by have := c.ls l hl; exact ⟨by omega, by omega⟩⟩
            · exact c.le hC2)
          obtain ⟨x2, y2⟩ := hh.2 (max C s1.next) (by omega) (by omega) x1 y1
          have := hh.1
          exact ⟨x2, y2.le (by omega)⟩) _ _ _ _ h
      obtain ⟨a2, b2⟩ := key.2 (max B s'.next) (by omega) (by omega) a0 (show BndJ _ _ from b.le (by omega))
      exact ⟨a2, b2.le (by omega)⟩
    · exact hk _ _ _ _ h
def S0 : LS := ⟨0, [], []⟩
def P0 : LP := ⟨-1, -1, []⟩
def ofF (n : Nat) (t : T) : LRes := kidsF (nodeF n) t.kids P0 S0
theorem ofF_lands {n : Nat} {t : T} {s : LS} (h : ofF n t = .ok s) : runM s.marks 0 = some (s.next : Int) ∧ ∀ j ∈ s.jumps, 0 ≤ j.2 ∧ j.2 < s.next := by
  obtain ⟨h1, h2⟩ := kidsF_keep (fun t s s' => nodeF_keep n t P0 s s') _ _ _ h
  obtain ⟨a, b⟩ := h2 0 rfl (fun j hj => by cases hj) ⟨by decide, by decide, fun l hl => by cases hl⟩
  exact ⟨a, fun j hj => by have := b j hj; exact ⟨this.1, by omega⟩⟩
theorem ofF_grew {n : Nat} {t : T} {s : LS} (h : ofF n t = .ok s) : s.next ≤ 2 * t.size ∧ s.marks.length ≤ t.size ∧ s.jumps.length ≤ t.size := by
  obtain ⟨h1, h2, h3, h4⟩ := kidsF_grew (fun t s s' => nodeF_grew n t P0 s s') _ _ _ h
  have := t.size_kids
  simp [S0] at *
  omega
def shI (d : Nat) (x : Int) : Int := if x < 0 then x else x + d
def shM (d : Nat) (m : Int × Int × Int) : Int × Int × Int := (m.1, shI d m.2.1, shI d m.2.2)
def shJ (d : Nat) (j : Int × Int) : Int × Int := (j.1, shI d j.2)
def shL (d : Nat) (l : LB) : LB := ⟨l.s, shI d l.brk, shI d l.again⟩
def shP (d : Nat) (p : LP) : LP := ⟨shI d p.brk, shI d p.again, p.ls.map (shL d)⟩
def shS (d : Nat) (M : List (Int × Int × Int)) (J : List (Int × Int)) (s : LS) : LS := ⟨s.next + d, M ++ s.marks.map (shM d), J ++ s.jumps.map (shJ d)⟩
theorem shI_nat (d n : Nat) : shI d (n : Int) = ((n + d : Nat) : Int) := by unfold shI; split <;> omega
theorem shI_neg1 (d : Nat) : shI d (-1) = -1 := rfl
theorem shI_lt {d : Nat} {x : Int} : shI d x < 0 ↔ x < 0 := by unfold shI; split <;> omega
theorem findL_sh (d : Nat) (ls : List LB) (s : ByteArray) : findL (ls.map (shL d)) s = (findL ls s).map (shL d) := by
  unfold findL
  rw [← List.map_reverse, List.find?_map]
  rfl
section
variable {d : Nat} {M : List (Int × Int × Int)} {J : List (Int × Int)}
theorem shS_mark (s : LS) (a : Int) : shS d M J (s.mark a) = (shS d M J s).mark a := by
  simp [shS, LS.mark, shM, shI_nat, shI_neg1]
  omega
theorem shS_jump (s : LS) (a to : Int) : shS d M J (s.jump a to) = (shS d M J s).jump a (shI d to) := by
  simp [shS, LS.jump, shJ]
theorem toF_sh (t : T) (x y : Int) : toF t (shI d x) (shI d y) = shI d (toF t x y) := by
  unfold toF; split <;> rfl
theorem kidsF_sh {f : T → LP → LS → LRes} {p : LP} (hf : ∀ t s, f t (shP d p) (shS d M J s) = (f t p s).map (shS d M J)) : ∀ ks s, kidsF f ks (shP d p) (shS d M J s) = (kidsF f ks p s).map (shS d M J)
  | [], s => rfl
  | k :: r, s => by
    unfold kidsF
    rw [hf]
    cases f k p s with
    | ok s1 => exact kidsF_sh hf r s1
    | error e => rfl
theorem aroundK_sh {f : T → LP → LS → LRes} {at' : Nat} {p q : LP} (hf : ∀ t p s, f t (shP d p) (shS d M J s) = (f t p s).map (shS d M J)) : ∀ ks i s, aroundK f at' (shP d p) (shP d q) i ks (shS d M J s) = (aroundK f at' p q i ks s).map (shS d M J)
  | [], i, s => rfl
  | k :: r, i, s => by
    unfold aroundK
    have : partK i at' (shP d p) (shP d q) = shP d (partK i at' p q) := by unfold partK; split <;> rfl
    rw [this, hf]
    cases f k (partK i at' p q) s with
    | ok s1 => exact aroundK_sh hf r (i + 1) s1
    | error e => rfl
theorem nodeF_sh : ∀ (n : Nat) (t : T) (p : LP) (s : LS), nodeF n t (shP d p) (shS d M J s) = (nodeF n t p s).map (shS d M J)
  | 0, t, p, s => rfl
  | n + 1, t, p, s => by
    have hk : ∀ p ks s, kidsF (nodeF n) ks (shP d p) (shS d M J s) = (kidsF (nodeF n) ks p s).map (shS d M J) := fun p => kidsF_sh fun t s => nodeF_sh n t p s
    unfold nodeF
    split
    · rfl
    split
    · unfold jumpF
      split
      · show (if toF t (shI d p.brk) (shI d p.again) < 0 then _ else Except.ok ((shS d M J s).jump t.at' (toF t (shI d p.brk) (shI d p.again)))) = _
        rw [toF_sh]
        by_cases h : toF t p.brk p.again < 0
        · rw [if_pos (shI_lt.2 h), if_pos h]; rfl
        · rw [if_neg (fun e => h (shI_lt.1 e)), if_neg h, ← shS_jump]; rfl
      · rw [show (shP d p).ls = p.ls.map (shL d) from rfl, findL_sh]
        cases findL p.ls t.s with
        | none => rfl
        | some l =>
          show (if toF t (shI d l.brk) (shI d l.again) < 0 then _ else Except.ok ((shS d M J s).jump t.at' (toF t (shI d l.brk) (shI d l.again)))) = Except.map _ (if _ then _ else _)
          rw [toF_sh]
          by_cases h : toF t l.brk l.again < 0
          · rw [if_pos (shI_lt.2 h), if_pos h]; rfl
          · rw [if_neg (fun e => h (shI_lt.1 e)), if_neg h, ← shS_jump]; rfl
    split
    · rw [show (shP d p).ls = p.ls.map (shL d) from rfl, findL_sh]
      cases findL p.ls t.s with
      | some l => rfl
      | none =>
        show kidsF (nodeF n) (t.kids.take 1) ⟨shI d p.brk, shI d p.again, p.ls.map (shL d) ++ [labOf n t (shS d M J s)]⟩ ((shS d M J s).mark t.at') = _
        have hl : labOf n t (shS d M J s) = shL d (labOf n t s) := by
          unfold labOf shL
          dsimp only
          rw [shI_nat]
          congr 1
          split
          · rw [shI_nat]; simp only [shS]; congr 1; omega
          · rfl
        rw [hl, ← shS_mark]
        exact (by rw [← hk]; simp [shP])
    split
    · rw [hk]
      cases kidsF (nodeF n) (t.kids.take 1) p s with
      | error e => rfl
      | ok s1 =>
        show kidsF (nodeF n) (t.kids.drop 1) ⟨((shS d M J s1).next : Int), shI d p.again, p.ls.map (shL d)⟩ ((shS d M J s1).mark t.at') = Except.map _ (kidsF _ _ _ _)
        rw [← hk, shS_mark]
        simp [shP, shS, shI_nat]
    split
    · unfold aroundF
      rw [← aroundK_sh (nodeF_sh n)]
      congr 1
      · simp [shP, shS, shI_nat]
        rw [show ((s.next : Int) + 1) = ((s.next + 1 : Nat) : Int) by omega, shI_nat]
        omega
      · simp [shS, shM, shI_nat]
        rw [show ((s.next : Int) + 1) = ((s.next + 1 : Nat) : Int) by omega, shI_nat]
        omega
    · exact hk _ _ _
end
theorem kidsF_append {f : T → LP → LS → LRes} {p : LP} : ∀ (a b : List T) (s : LS), kidsF f (a ++ b) p s = match kidsF f a p s with | .ok s1 => kidsF f b p s1 | .error e => .error e
  | [], b, s => rfl
  | k :: r, b, s => by
    simp only [List.cons_append, kidsF]
    cases f k p s with
    | ok s1 => exact kidsF_append r b s1
    | error e => rfl
theorem ofF_join {n : Nat} {a b c : T} (h : c.kids = a.kids ++ b.kids) : ofF n c = match ofF n a with | .ok sa => (ofF n b).map (shS sa.next sa.marks sa.jumps) | .error e => .error e := by
  unfold ofF
  rw [h, kidsF_append]
  cases hq : kidsF (nodeF n) a.kids P0 S0 with
  | error e => rfl
  | ok sa =>
    show kidsF (nodeF n) b.kids P0 sa = (kidsF (nodeF n) b.kids P0 S0).map (shS sa.next sa.marks sa.jumps)
    rw [← kidsF_sh (fun t s => nodeF_sh n t P0 s)]
    show kidsF (nodeF n) b.kids P0 sa = kidsF (nodeF n) b.kids P0 (shS sa.next sa.marks sa.jumps S0)
    congr 1
    simp [shS, S0]
end Go.Proofs.YtnllooebophcpaaDoor
