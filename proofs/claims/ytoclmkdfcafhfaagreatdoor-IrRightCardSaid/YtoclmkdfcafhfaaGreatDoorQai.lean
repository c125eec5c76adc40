/- Outcomes and their texts, plainly: the text of a valid outcome has a line for each part, and tells outcomes apart. -/
import Derived.Lib.ItoaNum
import Derived.Lib.Join
import Derived.Test.YtoclmkdfcafhfaaGreatDoorQah
set_option maxRecDepth 20000
namespace Go.Proofs.YtoclmkdfcafhfaaGreatDoor.Ou
section
open Go
def byS (s : ByteArray) : List UInt8 := s.data.toList
theorem byS_inj {s t : ByteArray} (h : byS s = byS t) : s = t := by
  cases s; cases t
  simp only [byS, Array.toList_inj] at h
  rw [h]
structure KeyP where
  (kind n : Int) (s : ByteArray)
structure EvP where
  (kind : Int) (key : KeyP) (s : ByteArray)
structure OutP where
  (e at_ fin : Int) (text : ByteArray) (out : List ByteArray) (log : List EvP) (steps made : Int)
def hexT : List UInt8 := [48, 49, 50, 51, 52, 53, 54, 55, 56, 57, 97, 98, 99, 100, 101, 102]
def q1 (c : UInt8) : List UInt8 :=
  if c = 10 then [92, 110] else if c = 9 then [92, 116] else if c = 13 then [92, 114] else if c = 0 then [92, 48]
  else if c = 34 ∨ c = 92 then [92, c] else if c.toNat < 32 ∨ 126 < c.toNat then [92, 120, hexT.getD (c.toNat / 16) 0, hexT.getD (c.toNat % 16) 0] else [c]
def quoteB (l : List UInt8) : List UInt8 := 34 :: (l.flatMap q1 ++ [34])
def errT : List (Int × List UInt8) := [(0, [111, 107]), (1, [97, 114, 103]), (2, [114, 97, 110, 103, 101]), (3, [110, 111, 110, 101]), (4, [116, 119, 105, 99, 101]), (5, [102, 117, 108, 108]), (6, [115, 116, 97, 116, 101]), (7, [102, 111, 114, 109]), (8, [101, 110, 100]), (9, [108, 111, 110, 103]), (10, [100, 101, 101, 112]), (20, [99, 104, 97, 114]), (21, [101, 115, 99, 97, 112, 101]), (22, [116, 111, 107, 101, 110]), (23, [115, 121, 110, 116, 97, 120]), (24, [116, 97, 114, 103, 101, 116]), (30, [97, 103, 97, 105, 110]), (31, [108, 97, 98, 101, 108]), (32, [98, 114, 101, 97, 107]), (33, [114, 101, 116, 117, 114, 110]), (34, [121, 105, 101, 108, 100]), (35, [115, 116, 114, 105, 99, 116]), (36, [99, 111, 110, 115, 116]), (40, [111, 112]), (41, [114, 101, 103]), (42, [106, 117, 109, 112]), (43, [112, 111, 111, 108]), (44, [103, 117, 97, 114, 100]), (50, [114, 101, 102]), (51, [107, 105, 110, 100])]
def endT : List (Int × List UInt8) := [(0, [110, 111, 114, 109, 97, 108]), (1, [116, 104, 114, 111, 119]), (6, [115, 116, 111, 112])]
def evT : List (List UInt8) := [[112, 114, 105, 110, 116], [103, 101, 116], [115, 101, 116], [104, 97, 115], [100, 101, 108, 101, 116, 101], [100, 101, 102, 105, 110, 101], [107, 101, 121, 115], [99, 97, 108, 108], [110, 101, 119], [116, 104, 114, 111, 119], [121, 105, 101, 108, 100], [106, 111, 98], [102, 105, 110, 97, 108]]
def tabB : List (Int × List UInt8) → Int → List UInt8
  | [], _ => []
  | (k, v) :: r, n => if n = k then v else tabB r n
def errB (e : Int) : List UInt8 := tabB errT e
def endB (e : Int) : List UInt8 := tabB endT e
def evB (k : Int) : List UInt8 := evT.getD (k - 1).toNat []
def inB (n : Int) : Prop := 0 ≤ n ∧ n ≤ 9007199254740992
def keyB (k : KeyP) : List UInt8 := if k.kind = 0 then [105, 110, 100, 101, 120, 32] ++ Lib.itoa k.n else if k.kind = 1 then [116, 101, 120, 116, 32] ++ quoteB (byS k.s) else [115, 121, 109, 98, 111, 108, 32] ++ Lib.itoa k.n
def evLine (e : EvP) : List UInt8 := [101, 118, 101, 110, 116, 32] ++ (evB e.kind ++ 32 :: (keyB e.key ++ 32 :: quoteB (byS e.s)))
def outLine (s : ByteArray) : List UInt8 := [111, 117, 116, 32] ++ quoteB (byS s)
def linesB (o : OutP) : List (List UInt8) :=
  if o.e ≠ 0 then [[101, 114, 114, 111, 114, 32] ++ (errB o.e ++ 32 :: Lib.itoa o.at_)]
  else ([101, 110, 100, 115, 32] ++ (endB o.fin ++ 32 :: quoteB (byS o.text))) :: ([115, 116, 101, 112, 115, 32] ++ Lib.itoa o.steps) :: ([109, 97, 100, 101, 32] ++ Lib.itoa o.made) :: (o.out.map outLine ++ o.log.map evLine)
def textB (o : OutP) : List UInt8 := (linesB o).flatMap (· ++ [10])
def Fr (c : UInt8) (l : List UInt8) : Prop := c ∉ l
theorem fr_app {c : UInt8} {a b : List UInt8} (ha : Fr c a) (hb : Fr c b) : Fr c (a ++ b) := fun h => (List.mem_append.1 h).elim ha hb
theorem fr_cons {c x : UInt8} {b : List UInt8} (hx : c ≠ x) (hb : Fr c b) : Fr c (x :: b) := fun h => (List.mem_cons.1 h).elim hx hb
theorem cut_inj {c : UInt8} : ∀ {x y u v : List UInt8}, Fr c x → Fr c y → x ++ c :: u = y ++ c :: v → x = y ∧ u = v
  | [], [], u, v, _, _, h => ⟨rfl, (List.cons.inj h).2⟩
  | [], b :: y, u, v, _, hy, h => absurd (List.mem_cons.2 (.inl (List.cons.inj h).1)) hy
  | a :: x, [], u, v, hx, _, h => absurd (List.mem_cons.2 (.inl (List.cons.inj h).1.symm)) hx
  | a :: x, b :: y, u, v, hx, hy, h => by
    obtain ⟨h1, h2⟩ := List.cons.inj h
    obtain ⟨h3, h4⟩ := cut_inj (fun hh => hx (List.mem_cons_of_mem _ hh)) (fun hh => hy (List.mem_cons_of_mem _ hh)) h2
    exact ⟨by rw [h1, h3], h4⟩
theorem dec_dig : ∀ (n : Nat), ∀ c ∈ Lib.decDigits n, 48 ≤ c.toNat ∧ c.toNat ≤ 57 := by
  intro n
  induction n using Nat.strongRecOn with
  | _ n ih =>
    rw [Lib.decDigits]
    intro c hc
    have hd : ∀ d, d < 10 → (UInt8.ofNat (48 + d)).toNat = 48 + d := fun d hd => by
      rw [UInt8.toNat_ofNat']
      omega
    by_cases h : n < 10
    · rw [dif_pos h, List.mem_singleton] at hc
      rw [hc, hd _ h]
      omega
    · rw [dif_neg h, List.mem_append, List.mem_singleton] at hc
      rcases hc with hc | hc
      · exact ih (n / 10) (by omega) c hc
      · rw [hc, hd _ (by omega)]
        omega
theorem itoa_dig (n : Int) : ∀ c ∈ Lib.itoa n, c.toNat = 45 ∨ 48 ≤ c.toNat ∧ c.toNat ≤ 57 := by
  intro c hc
  unfold Lib.itoa at hc
  split at hc
  · rcases List.mem_cons.1 hc with rfl | hc
    · exact .inl rfl
    · exact .inr (dec_dig _ _ hc)
  · exact .inr (dec_dig _ _ hc)
theorem itoa_fr (n : Int) {c : UInt8} (h : c.toNat < 45) : Fr c (Lib.itoa n) := fun hc => by
  have := itoa_dig n c hc
  omega
def dvalB (l : List UInt8) : Nat := l.foldl (fun a c => 10 * a + (c.toNat - 48)) 0
theorem dval_dec : ∀ n : Nat, dvalB (Lib.decDigits n) = n := by
  intro n
  induction n using Nat.strongRecOn with
  | _ n ih =>
    rw [Lib.decDigits]
    have hd : ∀ d, d < 10 → (UInt8.ofNat (48 + d)).toNat = 48 + d := fun d hd => by
      rw [UInt8.toNat_ofNat']
      omega
    by_cases h : n < 10
    · rw [dif_pos h]
      simp only [dvalB, List.foldl_cons, List.foldl_nil]
      rw [hd _ h]
      omega
    · rw [dif_neg h]
      have := ih (n / 10) (by omega)
      unfold dvalB at this ⊢
      rw [List.foldl_append, this]
      simp only [List.foldl_cons, List.foldl_nil]
      rw [hd _ (by omega)]
      omega
theorem all256 {p : UInt8 → Bool} (h : (List.range 256).all (fun n => p (UInt8.ofNat n)) = true) (c : UInt8) : p c = true := by
  have h1 := List.all_eq_true.1 h c.toNat (List.mem_range.2 c.toNat_lt)
  have h2 : UInt8.ofNat c.toNat = c := UInt8.toNat_inj.1 (by rw [UInt8.toNat_ofNat']; exact Nat.mod_eq_of_lt c.toNat_lt)
  rwa [h2] at h1
theorem q1_clean (c : UInt8) : (q1 c).all (fun x => decide (32 ≤ x.toNat)) = true := all256 (p := fun c => (q1 c).all (fun x => decide (32 ≤ x.toNat))) (by decide +kernel) c
theorem quote_fr {c : UInt8} (h : c.toNat < 32) (l : List UInt8) : Fr c (quoteB l) := by
  have h34 : c ≠ 34 := fun e => by rw [e] at h; exact absurd h (by decide)
  refine fr_cons h34 (fr_app (fun hc => ?_) (fr_cons h34 (List.not_mem_nil)))
  obtain ⟨x, _, hx⟩ := List.mem_flatMap.1 hc
  have := of_decide_eq_true (List.all_eq_true.1 (q1_clean x) c hx)
  omega
end
section
open Go
def ofB (l : List UInt8) : ByteArray := ⟨l.toArray⟩
theorem byS_ofB (l : List UInt8) : byS (ofB l) = l := by simp [byS, ofB]
theorem ofB_byS (s : ByteArray) : ofB (byS s) = s := byS_inj (byS_ofB _)
def cutB (c : UInt8) : List UInt8 → Option (List UInt8 × List UInt8)
  | [] => none
  | x :: r => if x = c then some ([], r) else (cutB c r).map fun p => (x :: p.1, p.2)
theorem cutB_app {c : UInt8} : ∀ {a b : List UInt8}, Fr c a → cutB c (a ++ c :: b) = some (a, b)
  | [], b, _ => by rw [List.nil_append, cutB, if_pos rfl]
  | x :: a, b, h => by
    rw [List.cons_append, cutB, if_neg (fun e => h (by rw [e]; exact List.mem_cons_self ..)), cutB_app (fun hh => h (List.mem_cons_of_mem _ hh))]
    rfl
def numB (l : List UInt8) : Option Int := if ((dvalB l : Nat) : Int) ≤ 9007199254740992 ∧ Lib.itoa (dvalB l) = l then some (dvalB l) else none
theorem numB_some {l : List UInt8} {n : Int} (h : numB l = some n) : inB n ∧ Lib.itoa n = l := by
  unfold numB at h
  split at h
  · rename_i hc
    cases h
    exact ⟨⟨by omega, hc.1⟩, hc.2⟩
  · cases h
theorem numB_itoa {n : Int} (h : inB n) : numB (Lib.itoa n) = some n := by
  have hd : ((dvalB (Lib.itoa n) : Nat) : Int) = n := by
    unfold Lib.itoa
    rw [if_neg (by have := h.1; omega), dval_dec]
    have := h.1
    omega
  unfold numB
  rw [hd, if_pos ⟨h.2, rfl⟩]
def hexV (c : UInt8) : Option Nat := if 48 ≤ c.toNat ∧ c.toNat ≤ 57 then some (c.toNat - 48) else if 97 ≤ c.toNat ∧ c.toNat ≤ 102 then some (c.toNat - 87) else if 65 ≤ c.toNat ∧ c.toNat ≤ 70 then some (c.toNat - 55) else none
def hex2 : List UInt8 → Except Int (UInt8 × List UInt8)
  | [] => .error 8
  | a :: r => match hexV a with
    | none => .error 21
    | some x => match r with
      | [] => .error 8
      | b :: r => match hexV b with
        | none => .error 21
        | some y => .ok (UInt8.ofNat (16 * x + y), r)
def escB : List UInt8 → Except Int (UInt8 × List UInt8)
  | [] => .error 8
  | c :: r => if c = 110 then .ok (10, r) else if c = 116 then .ok (9, r) else if c = 114 then .ok (13, r) else if c = 48 then .ok (0, r)
    else if c = 92 ∨ c = 39 ∨ c = 34 ∨ c = 96 ∨ c = 36 then .ok (c, r) else if c = 120 then hex2 r else .error 21
def oneB (c : UInt8) (r : List UInt8) : Except Int (UInt8 × List UInt8) := if c = 92 then escB r else .ok (c, r)
def litB (q : UInt8) : Nat → List UInt8 → List UInt8 → Except Int (List UInt8 × List UInt8)
  | 0, _, _ => .error 8
  | _ + 1, [], _ => .error 8
  | f + 1, c :: r, out => if c = q then .ok (out, r) else if c = 10 ∨ c = 13 then .error 22 else match oneB c r with
    | .error e => .error e
    | .ok (b, r') => if 65536 < out.length + 1 then .error 9 else litB q f r' (out ++ [b])
def readL (l : List UInt8) : Except Int (List UInt8 × List UInt8) := match l with
  | [] => .error 1
  | q :: r => if q = 34 ∨ q = 39 then litB q (r.length + 1) r [] else .error 1
theorem oneB_q1 (c : UInt8) (r : List UInt8) : ∃ x y, q1 c ++ r = x :: y ∧ x ≠ 34 ∧ x ≠ 10 ∧ x ≠ 13 ∧ oneB x y = .ok (c, r) ∧ r.length ≤ y.length := by
  have hh : ∀ d, d < 16 → hexV (hexT.getD d 0) = some d := by decide +kernel
  unfold q1
  split
  · rename_i h; subst h; exact ⟨92, 110 :: r, rfl, by decide, by decide, by decide, rfl, by simp⟩
  split
  · rename_i h; subst h; exact ⟨92, 116 :: r, rfl, by decide, by decide, by decide, rfl, by simp⟩
  split
  · rename_i h; subst h; exact ⟨92, 114 :: r, rfl, by decide, by decide, by decide, rfl, by simp⟩
  split
  · rename_i h; subst h; exact ⟨92, 48 :: r, rfl, by decide, by decide, by decide, rfl, by simp⟩
  split
  · rename_i h
    refine ⟨92, c :: r, rfl, by decide, by decide, by decide, ?_, by simp⟩
    rcases h with h | h <;> subst h <;> rfl
  split
  · have := c.toNat_lt
    refine ⟨92, 120 :: hexT.getD (c.toNat / 16) 0 :: hexT.getD (c.toNat % 16) 0 :: r, rfl, by decide, by decide, by decide, ?_, by simp; omega⟩
    show hex2 (hexT.getD (c.toNat / 16) 0 :: hexT.getD (c.toNat % 16) 0 :: r) = _
    unfold hex2
    dsimp only
    rw [hh _ (by omega)]
    dsimp only
    rw [hh _ (by omega)]
    dsimp only
    congr 2
    rw [← UInt8.toNat_inj, UInt8.toNat_ofNat']
    omega
  · rename_i h1 h2 h3 h4 h5 h6
    rw [not_or] at h5
    exact ⟨c, r, rfl, h5.1, h1, h3, by unfold oneB; rw [if_neg h5.2], Nat.le_refl _⟩
theorem litB_quote : ∀ (t u out : List UInt8) (f : Nat), (t.flatMap q1 ++ 34 :: u).length < f → out.length + t.length ≤ 65536 → litB 34 f (t.flatMap q1 ++ 34 :: u) out = .ok (out ++ t, u)
  | [], u, out, f, hf, _ => by
    cases f with
    | zero => omega
    | succ f => rw [List.flatMap_nil, List.nil_append, litB, if_pos rfl, List.append_nil]
  | c :: t, u, out, f, hf, hl => by
    cases f with
    | zero => omega
    | succ f =>
      obtain ⟨x, y, h1, h2, h3, h4, h5, h6⟩ := oneB_q1 c (t.flatMap q1 ++ 34 :: u)
      rw [List.length_cons] at hl
      rw [List.flatMap_cons, List.append_assoc, h1] at hf ⊢
      rw [List.length_cons] at hf
      rw [litB, if_neg h2, if_neg (by rintro (h | h); exact h3 h; exact h4 h), h5]
      dsimp only
      rw [if_neg (by omega), litB_quote t u (out ++ [c]) f (by omega) (by simp; omega), List.append_assoc]
      rfl
theorem readL_quote (t u : List UInt8) (h : t.length ≤ 65536) : readL (quoteB t ++ u) = .ok (t, u) := by
  unfold quoteB
  rw [List.cons_append, List.append_assoc]
  unfold readL
  dsimp only
  rw [if_pos (.inl rfl)]
  exact (litB_quote t u [] _ (by simp) (by simpa using h))
def quotedB (l : List UInt8) : Option (List UInt8 × List UInt8) := match readL l with
  | .error _ => none
  | .ok (t, u) => if quoteB t ++ u = l then some (t, u) else none
def lastB (l : List UInt8) : Option (List UInt8) := match quotedB l with
  | some (t, []) => some t
  | _ => none
def findB : List (Int × List UInt8) → List UInt8 → Option Int
  | [], _ => none
  | (k, v) :: r, l => if v = l then some k else findB r l
theorem findB_some : ∀ {t : List (Int × List UInt8)} {l : List UInt8} {k : Int}, findB t l = some k → (k, l) ∈ t
  | (k', v) :: r, l, k, h => by
    unfold findB at h
    split at h
    · rename_i hv
      cases h
      rw [hv]
      exact List.mem_cons_self ..
    · exact List.mem_cons_of_mem _ (findB_some h)
def evT' : List (Int × List UInt8) := (List.range 13).map fun (i : Nat) => ((i : Int) + 1, evT.getD i [])
theorem ev_of {l : List UInt8} {k : Int} (h : findB evT' l = some k) : evB k = l ∧ 1 ≤ k ∧ k ≤ 13 := by
  have hm := findB_some h
  have key : ∀ x ∈ evT', evB x.1 = x.2 ∧ 1 ≤ x.1 ∧ x.1 ≤ 13 := by decide +kernel
  exact key _ hm
section
variable (R : KeyP → Bool)
def Shaped : Prop := ∀ k : KeyP, R k = true → (k.kind = 0 ∧ k.s = ⟨#[]⟩ ∨ k.kind = 1 ∧ k.n = 0 ∨ k.kind = 2 ∧ k.s = ⟨#[]⟩)
variable {R}
end
end
end Go.Proofs.YtoclmkdfcafhfaaGreatDoor.Ou
namespace Go.Proofs.YtoclmkdfcafhfaaGreatDoor.Iq
section
open Go Go.Proofs.YtoclmkdfcafhfaaGreatDoor.Ou
def numZ (w : List UInt8) : Option Int := match numB w with
  | some n => some n
  | none => if w.head? = some 45 then match numB w.tail with
      | some n => if n = 0 then none else some (-n)
      | none => none
    else none
theorem dig_head (n : Nat) : (Lib.decDigits n).head? ≠ some 45 := fun h => by
  have := dec_dig n 45 (List.mem_of_mem_head? h)
  have h2 : (45 : UInt8).toNat = 45 := rfl
  omega
theorem numZ_itoa {n : Int} (h : -9007199254740992 ≤ n ∧ n ≤ 9007199254740992) : numZ (Lib.itoa n) = some n := by
  unfold numZ
  by_cases h0 : 0 ≤ n
  · rw [numB_itoa ⟨h0, h.2⟩]
  · have e : Lib.itoa n = 45 :: Lib.itoa (-n) := by
      unfold Lib.itoa
      rw [if_pos (by omega), if_neg (by omega), show n.natAbs = (-n).toNat by omega]
    have hn : numB (45 :: Lib.itoa (-n)) = none := by
      cases hb : numB (45 :: Lib.itoa (-n)) with
      | none => rfl
      | some m =>
        obtain ⟨h1, h2⟩ := numB_some hb
        exfalso
        unfold Lib.itoa at h2
        rw [if_neg (by have := h1.1; omega)] at h2
        exact dig_head m.toNat (by rw [h2]; rfl)
    rw [e, hn]
    dsimp only
    rw [if_pos (show (45 :: Lib.itoa (-n)).head? = some 45 from rfl), List.tail_cons, numB_itoa ⟨by omega, by omega⟩]
    dsimp only
    rw [if_neg (by omega), Int.neg_neg]
section
variable (row : Int → List UInt8 × List UInt8) (opOf : List UInt8 → Option Int)
def lineN (l : List UInt8) : Option (Int × Int × Int × Nat × List UInt8) := match cutB 32 l with
  | none => none
  | some (w0, r0) => match cutB 32 r0 with
    | none => none
    | some (w1, r1) => match cutB 32 r1 with
      | none => none
      | some (w2, r2) => match cutB 32 r2 with
        | none => none
        | some (w3, r3) => match opOf w0, numZ w1, numZ w2, numB w3, lastB r3 with
          | some op, some n, some m, some k, some s => if k ≤ 1048576 then some (op, n, m, k.toNat, s) else none
          | _, _, _, _, _ => none
def lineT (op n m : Int) (k : Nat) (s : List UInt8) : List UInt8 := (row op).1 ++ 32 :: (Lib.itoa n ++ 32 :: (Lib.itoa m ++ 32 :: (Lib.itoa k ++ 32 :: quoteB s)))
mutual
def nodeT : T → List UInt8
  | .mk op _ n m s kids => lineT row op n m kids.length (byS s) ++ 10 :: kidsT kids
def kidsT : List T → List UInt8
  | [] => []
  | k :: r => nodeT k ++ kidsT r
end
abbrev RdR (α : Type) := Except (Int × Int) (α × List UInt8 × Int)
mutual
def nodeR : Nat → Int → Int → List UInt8 → RdR T
  | 0, _, k, _ => .error (k, 0)
  | f + 1, deep, k, s => match cutB 10 s with
    | none => .error (k + 1, 8)
    | some (l, r) => match lineN opOf l with
      | none => .error (k + 1, 7)
      | some (op, n, m, c, t) => if 2048 < deep then .error (k + 1, 10) else match kidsR f deep c (k + 1) r with
        | .error e => .error e
        | .ok (ks, r', k') => .ok (.mk op 0 n m (ofB t) ks, r', k')
def kidsR : Nat → Int → Nat → Int → List UInt8 → RdR (List T)
  | 0, _, _, k, _ => .error (k, 0)
  | _ + 1, _, 0, k, s => .ok ([], s, k)
  | f + 1, deep, c + 1, k, s => match nodeR f (deep + 1) k s with
    | .error e => .error e
    | .ok (t, r, k') => match kidsR f deep c k' r with
      | .error e => .error e
      | .ok (ts, r', k'') => .ok (t :: ts, r', k'')
end
def RowOp : Prop := (∀ w op, opOf w = some op → (row op).1 = w) ∧ (∀ op, (row op).1 ≠ [] → opOf (row op).1 = some op) ∧ ∀ op, Fr 32 (row op).1 ∧ Fr 10 (row op).1
variable {row opOf}
theorem itoa_fr32 (n : Int) : Fr 32 (Lib.itoa n) := itoa_fr n (by decide)
theorem lastB_quote {s : List UInt8} (h : s.length ≤ 65536) : lastB (quoteB s) = some s := by
  unfold lastB quotedB
  have := readL_quote s [] h
  rw [List.append_nil] at this
  rw [this]
  dsimp only
  rw [List.append_nil, if_pos rfl]
theorem lineN_line (hR : RowOp row opOf) {op n m : Int} {k : Nat} {s : List UInt8} (ho : (row op).1 ≠ []) (hn : -9007199254740992 ≤ n ∧ n ≤ 9007199254740992) (hm : -9007199254740992 ≤ m ∧ m ≤ 9007199254740992) (hk : k ≤ 1048576) (hs : s.length ≤ 65536) :
    lineN opOf (lineT row op n m k s) = some (op, n, m, k, s) := by
  unfold lineN lineT
  rw [cutB_app (hR.2.2 op).1]
  dsimp only
  rw [cutB_app (itoa_fr32 n)]
  dsimp only
  rw [cutB_app (itoa_fr32 m)]
  dsimp only
  rw [cutB_app (itoa_fr32 k)]
  dsimp only
  rw [hR.2.1 op ho, numZ_itoa hn, numZ_itoa hm, numB_itoa ⟨by omega, by omega⟩, lastB_quote hs]
  dsimp only
  rw [if_pos (by omega)]
  simp
theorem lineT_fr (hR : RowOp row opOf) (op n m : Int) (k : Nat) (s : List UInt8) : Fr 10 (lineT row op n m k s) := by
  unfold lineT
  exact fr_app (hR.2.2 op).2 (fr_cons (by decide) (fr_app (itoa_fr _ (by decide)) (fr_cons (by decide) (fr_app (itoa_fr _ (by decide)) (fr_cons (by decide) (fr_app (itoa_fr _ (by decide)) (fr_cons (by decide) (quote_fr (by decide) _))))))))
end
end
section
open Go Go.Proofs.YtoclmkdfcafhfaaGreatDoor.Ou
mutual
def strip : T → T
  | .mk op _ n m s kids => .mk op 0 n m s (stripL kids)
def stripL : List T → List T
  | [] => []
  | k :: r => strip k :: stripL r
end
mutual
def nf : T → Nat
  | .mk _ _ _ _ _ kids => 1 + kf kids
def kf : List T → Nat
  | [] => 1
  | k :: r => 1 + nf k + kf r
end
section
variable (row : Int → List UInt8 × List UInt8) (opOf : List UInt8 → Option Int)
mutual
def OkT (deep : Int) : T → Prop
  | .mk op _ n m s kids => (row op).1 ≠ [] ∧ (-9007199254740992 ≤ n ∧ n ≤ 9007199254740992) ∧ (-9007199254740992 ≤ m ∧ m ≤ 9007199254740992) ∧ kids.length ≤ 1048576 ∧ s.size ≤ 65536 ∧ deep ≤ 2048 ∧ OkL deep kids
def OkL (deep : Int) : List T → Prop
  | [] => True
  | k :: r => OkT (deep + 1) k ∧ OkL deep r
end
variable {row opOf}
theorem byS_size (s : ByteArray) : (byS s).length = s.size := rfl
mutual
theorem back (hR : RowOp row opOf) : ∀ (t : T) (deep : Int), OkT row deep t → ∀ (f : Nat) (k : Int) (r : List UInt8), nf t ≤ f → ∃ k', nodeR opOf f deep k (nodeT row t ++ r) = .ok (strip t, r, k')
  | .mk op a n m s kids, deep, h, f, k, r, hf => by
    simp only [OkT] at h
    obtain ⟨h1, h2, h3, h4, h5, h6, h7⟩ := h
    cases f with
    | zero => simp only [nf] at hf; omega
    | succ f =>
      simp only [nf] at hf
      obtain ⟨k', hk⟩ := backL hR kids deep h7 f (k + 1) r (by omega)
      refine ⟨k', ?_⟩
      unfold nodeR
      simp only [nodeT]
      rw [List.append_assoc, List.cons_append, cutB_app (lineT_fr hR op n m kids.length (byS s))]
      dsimp only
      rw [lineN_line hR h1 h2 h3 h4 (by rw [byS_size]; exact h5)]
      dsimp only
      rw [if_neg (by omega), hk]
      dsimp only
      rw [ofB_byS]
      simp only [strip]
theorem backL (hR : RowOp row opOf) : ∀ (ts : List T) (deep : Int), OkL row deep ts → ∀ (f : Nat) (k : Int) (r : List UInt8), kf ts ≤ f → ∃ k', kidsR opOf f deep ts.length k (kidsT row ts ++ r) = .ok (stripL ts, r, k')
  | [], deep, h, f, k, r, hf => by
    cases f with
    | zero => simp only [kf] at hf; omega
    | succ f =>
      refine ⟨k, ?_⟩
      simp only [List.length_nil, kidsT, stripL, List.nil_append]
      unfold kidsR
      rfl
  | t :: ts, deep, h, f, k, r, hf => by
    simp only [OkL] at h
    cases f with
    | zero => simp only [kf] at hf; omega
    | succ f =>
      simp only [kf] at hf
      obtain ⟨k1, h1⟩ := back hR t (deep + 1) h.1 f k (kidsT row ts ++ r) (by omega)
      obtain ⟨k2, h2⟩ := backL hR ts deep h.2 f k1 r (by omega)
      refine ⟨k2, ?_⟩
      simp only [List.length_cons, kidsT, stripL, List.append_assoc]
      unfold kidsR
      rw [h1]
      dsimp only
      rw [h2]
end
end
structure FnP where
  (name : ByteArray) (kind len loc : Int) (body : T)
def pre (p l : List UInt8) : Option (List UInt8) := if p <+: l then some (l.drop p.length) else none
def funcP : List UInt8 := [102, 117, 110, 99, 32]
def unitP : List UInt8 := [117, 110, 105, 116, 32]
def numsT (a b c : Int) : List UInt8 := Lib.itoa a ++ 32 :: (Lib.itoa b ++ 32 :: Lib.itoa c)
def funcT (name : List UInt8) (a b c : Int) : List UInt8 := funcP ++ (quoteB name ++ 32 :: numsT a b c)
end
section
open Go Go.Proofs.YtoclmkdfcafhfaaGreatDoor.Ou
section
variable (row : Int → List UInt8 × List UInt8) (opOf : List UInt8 → Option Int)
def fnT (f : FnP) : List UInt8 := funcT (byS f.name) f.kind f.len f.loc ++ 10 :: nodeT row f.body
def unitT (fs : List FnP) : List UInt8 := (unitP ++ Lib.itoa fs.length) ++ 10 :: fs.flatMap (fnT row)
variable {row opOf}
def OkF (row : Int → List UInt8 × List UInt8) (f : FnP) : Prop := OkT row 1 f.body ∧ f.name.size ≤ 65536 ∧ (-9007199254740992 ≤ f.kind ∧ f.kind ≤ 9007199254740992) ∧ (-9007199254740992 ≤ f.len ∧ f.len ≤ 9007199254740992) ∧ (-9007199254740992 ≤ f.loc ∧ f.loc ≤ 9007199254740992)
end
end
section
open Go Go.Proofs.YtoclmkdfcafhfaaGreatDoor.Ou
def fnsOf (fs : List FnP) : Fns := fs.map fun f => (f.kind, f.loc)
def startC (n : Nat) : CkS := ⟨List.replicate n false, List.replicate n [], []⟩
def headB (fs : List FnP) : Bool := inI fs.length 1 4096 && (fs.all (fun f => decide (f.name.size ≤ 65536) && (inI f.kind 0 255 && (inI f.len 0 1024 && inI f.loc 0 4096))) && !genB (fs.head?.map (·.kind) |>.getD 0))
def rightU (row : Int → List UInt8 × List UInt8) (fs : List FnP) : Bool := headB fs && allF row (fnsOf fs) (fs.map (·.body)) (List.range fs.length) (startC fs.length)
section
variable {row : Int → List UInt8 × List UInt8} {fs : Fns}
end
mutual
def SzT : T → Prop
  | .mk _ _ _ _ s kids => kids.length ≤ 1048576 ∧ s.size ≤ 65536 ∧ SzL kids
def SzL : List T → Prop
  | [] => True
  | k :: r => SzT k ∧ SzL r
end
def Small (l : List Int) : Prop := ∀ x ∈ l, 0 ≤ x ∧ x ≤ 4096
def cnt (l : List Bool) : Nat := l.count true
def PlOk (p : PlP) (deep : Int) (k : Nat) : Prop := (p.slots.length : Int) + 1 ≤ 2048 * k + deep ∧ Small p.slots ∧ Small p.breaks ∧ Small p.agains
def CkOk (c : CkS) (funcs : Nat) : Prop := c.met.length = funcs ∧ ∀ l ∈ c.slots, l.length ≤ 2048 * cnt c.met ∧ Small l
theorem cnt_set {l : List Bool} {k : Nat} (hk : k < l.length) (h : ¬ l.getD k false = true) : cnt (l.set k true) = cnt l + 1 := by
  induction l generalizing k with
  | nil => simp at hk
  | cons x r ih =>
    cases k with
    | zero =>
      have hx : x = false := by simpa using h
      subst hx
      simp [cnt]
    | succ k =>
      have := ih (k := k) (by simpa using hk) (by simpa using h)
      unfold cnt at this ⊢
      rw [List.set_cons_succ, List.count_cons, List.count_cons, this]
      omega
theorem cnt_le (l : List Bool) : cnt l ≤ l.length := List.count_le_length
theorem inI_t {n lo hi : Int} (h : inI n lo hi = true) : lo ≤ n ∧ n ≤ hi := by
  unfold inI at h
  simpa using h
theorem small_getD {l : List Int} (h : Small l) (k : Nat) : l.getD k 0 ≤ 4096 := by
  rw [List.getD_eq_getElem?_getD]
  cases hk : l[k]? with
  | none => simp
  | some x => exact (h x (List.mem_of_getElem? hk)).2
theorem stands_ok {fs : Fns} {f op n m : Int} {p : PlP} {c : CkS} {deep : Int} (hc : CkOk c fs.length) (hp : PlOk p deep (cnt c.met)) (hd : deep ≤ 2048) (hn : numbB op n (locOf fs f) fs.length = true) : CkOk (standsF fs f op n m p c).1 fs.length ∧ cnt c.met ≤ cnt (standsF fs f op n m p c).1.met := by
  unfold standsF
  split
  · exact ⟨hc, Nat.le_refl _⟩
  split
  · rename_i h119
    dsimp only
    split
    · exact ⟨hc, Nat.le_refl _⟩
    · rename_i hmet
      have hr : 1 ≤ n ∧ n ≤ (fs.length : Int) - 1 := by
        subst h119
        simp [numbB] at hn
        exact inI_t hn
      have hlt : n.toNat < c.met.length := by rw [hc.1]; omega
      have hcs := cnt_set hlt hmet
      refine ⟨⟨by rw [List.length_set]; exact hc.1, fun l hl => ?_⟩, by dsimp only; omega⟩
      dsimp only at hl ⊢
      rw [hcs]
      rcases List.mem_or_eq_of_mem_set hl with h | h
      · have := hc.2 l h
        exact ⟨by omega, this.2⟩
      · subst h
        have := hp.1
        exact ⟨by omega, hp.2.1⟩
  split
  · exact ⟨hc, Nat.le_refl _⟩
  split
  · exact ⟨hc, Nat.le_refl _⟩
  split
  · exact ⟨hc, Nat.le_refl _⟩
  split
  · exact ⟨hc, Nat.le_refl _⟩
  · exact ⟨hc, Nat.le_refl _⟩
theorem stands_n {fs : Fns} {f op n m : Int} {p : PlP} {c : CkS} {deep : Int} {k : Nat} (hp : PlOk p deep k) (hsl : (p.slots.length : Int) ≤ 9000000000) (hloc : locOf fs f ≤ 4096) (hfs : fs.length ≤ 4096) (hn : numbB op n (locOf fs f) fs.length = true) (hm : moreB op m = true) (hs : (standsF fs f op n m p c).2 = true) :
    (-9007199254740992 ≤ n ∧ n ≤ 9007199254740992) ∧ (-9007199254740992 ≤ m ∧ m ≤ 9007199254740992) := by
  unfold numbB at hn
  unfold moreB at hm
  unfold standsF at hs
  by_cases h1 : op = 109 ∨ op = 110
  · rw [if_pos h1] at hs
    simp only [Bool.and_eq_true] at hs
    have a := inI_t hs.1
    have b := inI_t hs.2
    have d := small_getD hp.2.1 n.toNat
    omega
  rw [if_neg h1] at hs hm
  have hmm : -9007199254740992 ≤ m ∧ m ≤ 9007199254740992 := by
    split at hm
    · have := inI_t hm; omega
    split at hm
    · have := inI_t hm; omega
    · simp at hm; omega
  refine ⟨?_, hmm⟩
  by_cases h2 : op = 165
  · subst h2
    simp at hs
    have := hp.2.2.1 n (by simpa using hs)
    omega
  by_cases h3 : op = 166
  · subst h3
    simp at hs
    have := hp.2.2.2 n (by simpa using hs)
    omega
  split at hn
  · have := inI_t hn; omega
  split at hn
  · have := inI_t hn; omega
  split at hn
  · have := inI_t hn; omega
  split at hn
  · rename_i h
    exfalso
    rcases h with h | h | h | h
    · exact h1 (.inl h)
    · exact h1 (.inr h)
    · exact h2 h
    · exact h3 h
  split at hn
  · have := inI_t hn; omega
  split at hn
  · have := inI_t hn; omega
  split at hn
  · have := inI_t hn; omega
  split at hn
  · have := inI_t hn; omega
  split at hn
  · have := inI_t hn; omega
  · simp at hn; omega
theorem small_app {l : List Int} {x : Int} (h : Small l) (hx : 0 ≤ x ∧ x ≤ 4096) : Small (l ++ [x]) := fun y hy => by
  rcases List.mem_append.1 hy with hy | hy
  · exact h y hy
  · rw [List.mem_singleton.1 hy]; exact hx
theorem small_cons {l : List Int} {x : Int} (h : Small l) (hx : 0 ≤ x ∧ x ≤ 4096) : Small (x :: l) := fun y hy => by
  rcases List.mem_cons.1 hy with rfl | hy
  · exact hx
  · exact h y hy
theorem numb_163 {op n loc funcs : Int} (h : op = 163 ∨ op = 164 ∨ op = 170) (hn : numbB op n loc funcs = true) : 0 ≤ n ∧ n ≤ 4096 := by
  rcases h with rfl | rfl | rfl <;> simp [numbB] at hn <;> exact inI_t hn
theorem more_163 {m : Int} (hm : moreB 163 m = true) : 0 ≤ m ∧ m ≤ 4096 := by
  simp [moreB] at hm
  exact inI_t hm
theorem inside_ok {fs : Fns} {f op n : Int} {p : PlP} {deep : Int} {k : Nat} (hp : PlOk p deep k) (hn : numbB op n (locOf fs f) fs.length = true) : PlOk (inside op n p) (deep + 1) k := by
  obtain ⟨h1, h2, h3, h4⟩ := hp
  unfold inside
  split
  · rename_i h
    exact ⟨by dsimp only; omega, h2, small_app h3 (numb_163 (.inr (.inl h)) hn), h4⟩
  split
  · rename_i h
    exact ⟨by simp only [List.length_cons]; omega, small_cons h2 (numb_163 (.inr (.inr h)) hn), h3, h4⟩
  · exact ⟨by omega, h2, h3, h4⟩
theorem atKid_ok {fs : Fns} {f op n m : Int} {p : PlP} {deep : Int} {k i : Nat} (hp : PlOk p deep k) (hn : numbB op n (locOf fs f) fs.length = true) (hm : moreB op m = true) : PlOk (atKid op n m p i) deep k := by
  obtain ⟨h1, h2, h3, h4⟩ := hp
  unfold atKid
  split
  · rename_i h
    obtain ⟨rfl, _⟩ := h
    exact ⟨h1, h2, small_app h3 (numb_163 (.inl rfl) hn), small_app h4 (more_163 hm)⟩
  · exact ⟨h1, h2, h3, h4⟩
theorem PlOk.up {p : PlP} {deep : Int} {k k' : Nat} (h : PlOk p deep k) (hk : k ≤ k') : PlOk p deep k' := ⟨by have := h.1; omega, h.2⟩
section
variable {row : Int → List UInt8 × List UInt8} {fs : Fns}
theorem shape_parts {op a n m : Int} {s : ByteArray} {kids : List T} {f deep : Int} (h : shapeB row fs (.mk op a n m s kids) f deep = true) :
    deep ≤ 2048 ∧ (row op).1 ≠ [] ∧ moreB op m = true ∧ numbB op n (locOf fs f) fs.length = true := by
  unfold shapeB at h
  simp only [T.op, T.n, T.m, T.s, T.kids, Bool.and_eq_true, decide_eq_true_eq, Bool.not_eq_true'] at h
  refine ⟨h.1, fun e => ?_, h.2.2.2.2.1, h.2.2.2.2.2.1⟩
  have := h.2.1
  rw [e] at this
  cases this
mutual
theorem node_ok (hfs : fs.length ≤ 4096) (hloc : ∀ f, locOf fs f ≤ 4096) : ∀ (t : T) (f : Int) (p : PlP) (deep : Int) (c c' : CkS), CkOk c fs.length → PlOk p deep (cnt c.met) → SzT t → nodeF row fs f t p deep c = (c', true) → OkT row deep t ∧ CkOk c' fs.length ∧ cnt c.met ≤ cnt c'.met
  | .mk op a n m s kids, f, p, deep, c, c', hc, hp, hz, h => by
    simp only [nodeF] at h
    simp only [SzT] at hz
    split at h
    · rename_i hsh
      obtain ⟨s1, s2, s3, s4⟩ := shape_parts hsh
      split at h
      · rename_i hst
        have hlen : (p.slots.length : Int) ≤ 9000000000 := by
          have h1 := hp.1
          have h2 := cnt_le c.met
          rw [hc.1] at h2
          omega
        obtain ⟨k1, k2⟩ := stands_ok (m := m) hc hp s1 s4
        obtain ⟨n1, n2⟩ := stands_n hp hlen (hloc f) hfs s4 s3 hst
        obtain ⟨e1, e2, e3⟩ := kids_ok hfs hloc kids f op n m (inside op n p) deep 0 _ c' k1 ((inside_ok hp s4).up k2) hz.2.2 s4 s3 h
        simp only [OkT]
        exact ⟨⟨s2, n1, n2, hz.1, hz.2.1, s1, e1⟩, e2, Nat.le_trans k2 e3⟩
      · cases h
    · cases h
theorem kids_ok (hfs : fs.length ≤ 4096) (hloc : ∀ f, locOf fs f ≤ 4096) : ∀ (ts : List T) (f op n m : Int) (p : PlP) (deep : Int) (i : Nat) (c c' : CkS), CkOk c fs.length → PlOk p (deep + 1) (cnt c.met) → SzL ts → numbB op n (locOf fs f) fs.length = true → moreB op m = true → kidsF row fs f op n m p deep ts i c = (c', true) → OkL row deep ts ∧ CkOk c' fs.length ∧ cnt c.met ≤ cnt c'.met
  | [], f, op, n, m, p, deep, i, c, c', hc, hp, hz, hn, hm, h => by
    simp only [kidsF] at h
    cases h
    simp only [OkL]
    exact ⟨trivial, hc, Nat.le_refl _⟩
  | t :: ts, f, op, n, m, p, deep, i, c, c', hc, hp, hz, hn, hm, h => by
    simp only [kidsF] at h
    simp only [SzL] at hz
    split at h
    · rename_i hq
      obtain ⟨e1, e2, e3⟩ := node_ok hfs hloc t f (atKid op n m p i) (deep + 1) c (nodeF row fs f t (atKid op n m p i) (deep + 1) c).1 hc (atKid_ok hp hn hm) hz.1 (by rw [← hq])
      obtain ⟨f1, f2, f3⟩ := kids_ok hfs hloc ts f op n m p deep (i + 1) _ c' e2 (hp.up e3) hz.2 hn hm h
      simp only [OkL]
      exact ⟨⟨e1, f1⟩, f2, Nat.le_trans e3 f3⟩
    · cases h
end
end
end
section
open Go Go.Proofs.YtoclmkdfcafhfaaGreatDoor.Ou
def Met (c : CkS) (k : Nat) : Prop := c.met.getD k false = true
def Gr (c c' : CkS) : Prop := (∀ k, Met c k → Met c' k) ∧ (∀ k, Met c' k → Met c k ∨ (k : Int) ∈ c'.next) ∧ (∀ x ∈ c.next, x ∈ c'.next) ∧ ∀ x ∈ c'.next, x ∈ c.next ∨ 0 ≤ x
theorem Gr.refl (c : CkS) : Gr c c := ⟨fun _ h => h, fun _ h => .inl h, fun _ h => h, fun _ h => .inl h⟩
theorem Gr.trans {a b c : CkS} (h : Gr a b) (k : Gr b c) : Gr a c := ⟨fun i hi => k.1 i (h.1 i hi), fun i hi => by
  rcases k.2.1 i hi with h1 | h1
  · rcases h.2.1 i h1 with h2 | h2
    · exact .inl h2
    · exact .inr (k.2.2.1 _ h2)
  · exact .inr h1, fun x hx => k.2.2.1 x (h.2.2.1 x hx), fun x hx => by
  rcases k.2.2.2 x hx with h1 | h1
  · exact h.2.2.2 x h1
  · exact .inr h1⟩
theorem getD_set {l : List Bool} {k j : Nat} : (l.set k true).getD j false = true ↔ (k = j ∧ k < l.length) ∨ l.getD j false = true := by
  rw [List.getD_eq_getElem?_getD, List.getD_eq_getElem?_getD, List.getElem?_set]
  by_cases h : k = j
  · subst h
    by_cases hk : k < l.length
    · simp [hk]
    · simp [hk]
  · simp [h]
section
variable {row : Int → List UInt8 × List UInt8} {fs : Fns}
theorem stands_gr (f op n m : Int) (p : PlP) (c : CkS) (hn : 0 ≤ n ∨ op ≠ 119) : Gr c (standsF fs f op n m p c).1 := by
  unfold standsF
  split
  · exact Gr.refl _
  split
  · rename_i h119
    dsimp only
    split
    · exact Gr.refl _
    · have hn0 : 0 ≤ n := hn.resolve_right (fun h => h h119)
      refine ⟨fun k hk => ?_, fun k hk => ?_, fun x hx => List.mem_append_left _ hx, fun x hx => ?_⟩
      · exact getD_set.2 (.inr hk)
      · rcases getD_set.1 hk with ⟨h1, _⟩ | h1
        · right
          have : (k : Int) = n := by omega
          rw [this]
          exact List.mem_append_right _ (List.mem_singleton.2 rfl)
        · exact .inl h1
      · rcases List.mem_append.1 hx with h1 | h1
        · exact .inl h1
        · rw [List.mem_singleton.1 h1]; exact .inr hn0
  split
  · exact Gr.refl _
  split
  · exact Gr.refl _
  split
  · exact Gr.refl _
  split
  · exact Gr.refl _
  · exact Gr.refl _
theorem numb_119 {op n loc funcs : Int} (h : numbB op n loc funcs = true) : 0 ≤ n ∨ op ≠ 119 := by
  by_cases ho : op = 119
  · subst ho
    simp [numbB] at h
    have := inI_t h
    exact .inl (by omega)
  · exact .inr ho
mutual
theorem node_gr : ∀ (t : T) (f : Int) (p : PlP) (deep : Int) (c : CkS), Gr c (nodeF row fs f t p deep c).1
  | .mk op a n m s kids, f, p, deep, c => by
    simp only [nodeF]
    split
    · rename_i hsh
      have hs := stands_gr (fs := fs) f op n m p c (numb_119 (shape_parts hsh).2.2.2)
      split
      · exact hs.trans (kids_gr kids f op n m _ deep 0 _)
      · exact hs
    · exact Gr.refl _
theorem kids_gr : ∀ (ts : List T) (f op n m : Int) (p : PlP) (deep : Int) (i : Nat) (c : CkS), Gr c (kidsF row fs f op n m p deep ts i c).1
  | [], _, _, _, _, _, _, _, _ => by
    simp only [kidsF]
    exact Gr.refl _
  | t :: ts, f, op, n, m, p, deep, i, c => by
    simp only [kidsF]
    have h := node_gr t f (atKid op n m p i) (deep + 1) c
    split
    · exact h.trans (kids_gr ts f op n m p deep (i + 1) _)
    · exact h
end
def Seen (row : Int → List UInt8 × List UInt8) (bodies : List T) (c : CkS) : Prop := ∀ k, Met c k → OkT row 1 (bodies.getD k (.mk 0 0 0 0 ⟨#[]⟩ [])) ∨ (k : Int) ∈ c.next
theorem ck_slots {c : CkS} {n : Nat} (hc : CkOk c n) (f : Nat) : PlOk ⟨c.slots.getD f [], [], [], false⟩ 1 (cnt c.met) := by
  have hl : (c.slots.getD f []).length ≤ 2048 * cnt c.met ∧ Small (c.slots.getD f []) := by
    rw [List.getD_eq_getElem?_getD]
    cases h : c.slots[f]? with
    | none => exact ⟨Nat.zero_le _, fun x hx => by simp at hx⟩
    | some l => exact hc.2 l (List.mem_of_getElem? h)
  exact ⟨by dsimp only; omega, hl.2, fun x hx => (by cases hx), fun x hx => (by cases hx)⟩
theorem queue_ok (hfs : fs.length ≤ 4096) (hloc : ∀ f, locOf fs f ≤ 4096) (bodies : List T) (hz : ∀ t ∈ bodies, SzT t) : ∀ (g : Nat) (c c' : CkS), CkOk c fs.length → Seen row bodies c → (∀ x ∈ c.next, 0 ≤ x) → queueF row fs bodies g c = (c', true) → CkOk c' fs.length ∧ Seen row bodies c' ∧ c'.next = [] ∧ (∀ k, Met c k → Met c' k)
  | 0, c, c', hc, hs, hx, h => by
    unfold queueF at h
    obtain ⟨rfl, h2⟩ := Prod.mk.inj h
    refine ⟨hc, hs, ?_, fun _ hk => hk⟩
    cases hn : c.next with
    | nil => rfl
    | cons x r => rw [hn] at h2; cases h2
  | g + 1, c, c', hc, hs, hx, h => by
    unfold queueF at h
    cases hn : c.next with
    | nil =>
      rw [hn] at h
      obtain ⟨rfl, _⟩ := Prod.mk.inj h
      exact ⟨hc, hs, hn, fun _ hk => hk⟩
    | cons f r =>
      rw [hn] at h
      dsimp only at h
      split at h
      · rename_i hd
        split at h
        · rename_i hq
          have hf0 : 0 ≤ f := hx f (by rw [hn]; exact List.mem_cons_self ..)
          have hzb : SzT (bodies.getD f.toNat (.mk 0 0 0 0 ⟨#[]⟩ [])) := by
            rw [List.getD_eq_getElem?_getD]
            cases hb : bodies[f.toNat]? with
            | none => simp [SzT, SzL, ByteArray.size]
            | some t => exact hz t (List.mem_of_getElem? hb)
          have hc1 : CkOk { c with next := r } fs.length := hc
          have hgr := node_gr (row := row) (fs := fs) (bodies.getD f.toNat (.mk 0 0 0 0 ⟨#[]⟩ [])) f ⟨c.slots.getD f.toNat [], [], [], false⟩ 1 { c with next := r }
          obtain ⟨e1, e2, _⟩ := node_ok hfs hloc _ f ⟨c.slots.getD f.toNat [], [], [], false⟩ 1 { c with next := r } (nodeF row fs f (bodies.getD f.toNat (.mk 0 0 0 0 ⟨#[]⟩ [])) ⟨c.slots.getD f.toNat [], [], [], false⟩ 1 { c with next := r }).1 hc1 (ck_slots hc f.toNat) hzb (by rw [← hq])
          generalize nodeF row fs f (bodies.getD f.toNat (.mk 0 0 0 0 ⟨#[]⟩ [])) ⟨c.slots.getD f.toNat [], [], [], false⟩ 1 { c with next := r } = q at hq hgr e2 h
          have hs1 : Seen row bodies q.1 := fun k hk => by
            rcases hgr.2.1 k hk with h1 | h1
            · rcases hs k h1 with h2 | h2
              · exact .inl h2
              · rw [hn] at h2
                rcases List.mem_cons.1 h2 with h3 | h3
                · left
                  rw [show k = f.toNat by omega]
                  exact e1
                · exact .inr (hgr.2.2.1 _ h3)
            · exact .inr h1
          have hx1 : ∀ x ∈ q.1.next, 0 ≤ x := fun x hxx => by
            rcases hgr.2.2.2 x hxx with h1 | h1
            · exact hx x (by rw [hn]; exact List.mem_cons_of_mem _ h1)
            · exact h1
          obtain ⟨a1, a2, a3, a4⟩ := queue_ok hfs hloc bodies hz g q.1 c' e2 hs1 hx1 h
          exact ⟨a1, a2, a3, fun k hk => a4 k (hgr.1 k hk)⟩
        · cases h
      · cases h
theorem all_ok (hfs : fs.length ≤ 4096) (hloc : ∀ f, locOf fs f ≤ 4096) (bodies : List T) (hz : ∀ t ∈ bodies, SzT t) : ∀ (l : List Nat) (c : CkS), (∀ f ∈ l, f < fs.length) → CkOk c fs.length → Seen row bodies c → c.next = [] → allF row fs bodies l c = true → ∀ f ∈ l, OkT row 1 (bodies.getD f (.mk 0 0 0 0 ⟨#[]⟩ []))
  | [], _, _, _, _, _, _ => fun f hf => by cases hf
  | f :: r, c, hl, hc, hs, hn, h => by
    unfold allF at h
    have hl2 : ∀ x ∈ r, x < fs.length := fun x hx => hl x (List.mem_cons_of_mem _ hx)
    split at h
    · rename_i hm
      have h1 : OkT row 1 (bodies.getD f (.mk 0 0 0 0 ⟨#[]⟩ [])) := by
        rcases hs f hm with h1 | h1
        · exact h1
        · rw [hn] at h1; cases h1
      have ih := all_ok hfs hloc bodies hz r c hl2 hc hs hn h
      intro x hx
      rcases List.mem_cons.1 hx with rfl | hx
      · exact h1
      · exact ih x hx
    · rename_i hm
      dsimp only at h
      split at h
      · rename_i hq
        unfold fromF at hq h
        have hlt : f < c.met.length := by rw [hc.1]; exact hl f (List.mem_cons_self ..)
        have hcs := cnt_set hlt hm
        have hc1 : CkOk { c with met := c.met.set f true, next := [(f : Int)] } fs.length := ⟨by rw [List.length_set]; exact hc.1, fun l hl' => by
          have := hc.2 l hl'
          dsimp only
          rw [hcs]
          exact ⟨by omega, this.2⟩⟩
        have hs1 : Seen row bodies { c with met := c.met.set f true, next := [(f : Int)] } := fun k hk => by
          rcases getD_set.1 hk with ⟨h1, _⟩ | h1
          · exact .inr (by rw [h1]; exact List.mem_singleton.2 rfl)
          · rcases hs k h1 with h2 | h2
            · exact .inl h2
            · rw [hn] at h2; cases h2
        obtain ⟨a1, a2, a3, a4⟩ := queue_ok hfs hloc bodies hz _ _ (queueF row fs bodies (bodies.length + 1) { c with met := c.met.set f true, next := [(f : Int)] }).1 hc1 hs1 (fun x hx => by rw [List.mem_singleton.1 hx]; omega) (Prod.ext rfl hq)
        have ih := all_ok hfs hloc bodies hz r _ hl2 a1 a2 a3 h
        have hmf := a4 f (getD_set.2 (.inl ⟨rfl, hlt⟩))
        intro x hx
        rcases List.mem_cons.1 hx with rfl | hx
        · rcases a2 x hmf with h1 | h1
          · exact h1
          · rw [a3] at h1; cases h1
        · exact ih x hx
      · cases h
end
theorem right_ok {row : Int → List UInt8 × List UInt8} {fs : List FnP} (hz : ∀ f ∈ fs, SzT f.body) (h : rightU row fs = true) : (∀ f ∈ fs, OkF row f) ∧ 1 ≤ fs.length ∧ fs.length ≤ 4096 := by
  unfold rightU headB at h
  simp only [Bool.and_eq_true, List.all_eq_true, decide_eq_true_eq] at h
  obtain ⟨⟨h1, h2, _⟩, h3⟩ := h
  have hlen := inI_t h1
  have hfl : (fnsOf fs).length = fs.length := by unfold fnsOf; rw [List.length_map]
  have hloc : ∀ f, locOf (fnsOf fs) f ≤ 4096 := fun f => by
    unfold locOf fnsOf
    rw [List.getD_eq_getElem?_getD, List.getElem?_map]
    cases hf : fs[f.toNat]? with
    | none => decide
    | some x =>
      have := inI_t (h2 x (List.mem_of_getElem? hf)).2.2.2
      exact this.2
  have hck : CkOk (startC fs.length) (fnsOf fs).length := ⟨by rw [hfl]; simp [startC], fun l hl => by
    have : l = [] := by simpa [startC] using List.eq_of_mem_replicate hl
    subst this
    exact ⟨Nat.zero_le _, fun x hx => by cases hx⟩⟩
  have hseen : Seen row (fs.map (·.body)) (startC fs.length) := fun k hk => by
    exfalso
    unfold Met startC at hk
    rw [List.getD_eq_getElem?_getD, List.getElem?_replicate] at hk
    split at hk <;> simp at hk
  have hall := all_ok (by rw [hfl]; omega) hloc (fs.map (·.body)) (fun t ht => by
    obtain ⟨f, hf, rfl⟩ := List.mem_map.1 ht
    exact hz f hf) (List.range fs.length) (startC fs.length) (fun f hf => by rw [hfl]; exact List.mem_range.1 hf) hck hseen rfl h3
  refine ⟨fun f hf => ?_, by omega, by omega⟩
  obtain ⟨i, hi⟩ := List.mem_iff_getElem?.1 hf
  have hilt := (List.getElem?_eq_some_iff.1 hi).1
  have hb := hall i (List.mem_range.2 hilt)
  rw [List.getD_eq_getElem?_getD, List.getElem?_map, hi] at hb
  obtain ⟨g1, g2, g3, g4⟩ := h2 f hf
  have i2 := inI_t g2
  have i3 := inI_t g3
  have i4 := inI_t g4
  exact ⟨hb, g1, ⟨by omega, by omega⟩, ⟨by omega, by omega⟩, ⟨by omega, by omega⟩⟩
end
section
open Go Go.Proofs.YtoclmkdfcafhfaaGreatDoor.Ou
def unmet (c : CkS) : Nat := c.met.count false
def meas (c : CkS) : Nat := unmet c + c.next.length
theorem count_set {l : List Bool} {k : Nat} (hk : k < l.length) (h : ¬ l.getD k false = true) : (l.set k true).count false + 1 = l.count false := by
  induction l generalizing k with
  | nil => simp at hk
  | cons x r ih =>
    cases k with
    | zero =>
      have hx : x = false := by simpa using h
      subst hx
      simp
    | succ k =>
      have := ih (k := k) (by simpa using hk) (by simpa using h)
      rw [List.set_cons_succ, List.count_cons, List.count_cons, ← this]
      omega
section
variable {row : Int → List UInt8 × List UInt8} {fs : Fns}
def SameLen (c c' : CkS) : Prop := c'.met.length = c.met.length ∧ c'.slots.length = c.slots.length ∧ meas c' = meas c
theorem SameLen.refl (c : CkS) : SameLen c c := ⟨rfl, rfl, rfl⟩
theorem SameLen.trans {a b c : CkS} (h : SameLen a b) (k : SameLen b c) : SameLen a c := ⟨k.1.trans h.1, k.2.1.trans h.2.1, k.2.2.trans h.2.2⟩
theorem stands_len (f op n m : Int) (p : PlP) (c : CkS) (hl : c.met.length = fs.length) (hn : numbB op n (locOf fs f) fs.length = true) : SameLen c (standsF fs f op n m p c).1 := by
  unfold standsF
  split
  · exact SameLen.refl _
  split
  · rename_i h119
    dsimp only
    split
    · exact SameLen.refl _
    · rename_i hmet
      have hr : 1 ≤ n ∧ n ≤ (fs.length : Int) - 1 := by
        subst h119
        simp [numbB] at hn
        exact inI_t hn
      have hc := count_set (k := n.toNat) (by rw [hl]; omega) hmet
      refine ⟨List.length_set, List.length_set, ?_⟩
      unfold meas unmet
      simp only [List.length_append, List.length_cons, List.length_nil]
      omega
  split
  · exact SameLen.refl _
  split
  · exact SameLen.refl _
  split
  · exact SameLen.refl _
  split
  · exact SameLen.refl _
  · exact SameLen.refl _
mutual
theorem node_len : ∀ (t : T) (f : Int) (p : PlP) (deep : Int) (c : CkS), c.met.length = fs.length → SameLen c (nodeF row fs f t p deep c).1
  | .mk op a n m s kids, f, p, deep, c, hl => by
    simp only [nodeF]
    split
    · rename_i hsh
      have hs := stands_len f op n m p c hl (shape_parts hsh).2.2.2
      split
      · exact hs.trans (kids_len kids f op n m _ deep 0 _ (hs.1.trans hl))
      · exact hs
    · exact SameLen.refl _
theorem kids_len : ∀ (ts : List T) (f op n m : Int) (p : PlP) (deep : Int) (i : Nat) (c : CkS), c.met.length = fs.length → SameLen c (kidsF row fs f op n m p deep ts i c).1
  | [], _, _, _, _, _, _, _, _, _ => by
    simp only [kidsF]
    exact SameLen.refl _
  | t :: ts, f, op, n, m, p, deep, i, c, hl => by
    simp only [kidsF]
    have h := node_len t f (atKid op n m p i) (deep + 1) c hl
    split
    · exact h.trans (kids_len ts f op n m p deep (i + 1) _ (h.1.trans hl))
    · exact h
end
end
end
end Go.Proofs.YtoclmkdfcafhfaaGreatDoor.Iq
namespace Go.Proofs.YtoclmkdfcafhfaaGreatDoor
end Go.Proofs.YtoclmkdfcafhfaaGreatDoor
