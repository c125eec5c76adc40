/- Outcomes and their texts, plainly: the text of a valid outcome has a line for each part, and tells outcomes apart. (and what leans on it). No statement of the seat is proved here. -/
import Derived.Lib.ItoaNum
import Derived.Lib.Join
set_option maxRecDepth 20000
namespace Go.Proofs.YtmihpkdhfomcgaaGreatDoor.Ou
open Go
def byS (s : ByteArray) : List UInt8 := s.data.toList
theorem byS_inj {s t : ByteArray} (h : byS s = byS t) : s = t := by
  cases s; cases t
  simp only [byS, Array.toList_inj] at h
  rw [h]
structure KeyP where
  (kind n : Int) (s : ByteArray)
structure EvP where
  (kind : Int) (key : KeyP) (s : ByteArray)
structure OutP where
  (e at_ fin : Int) (text : ByteArray) (out : List ByteArray) (log : List EvP) (steps made : Int)
def hexT : List UInt8 := [48, 49, 50, 51, 52, 53, 54, 55, 56, 57, 97, 98, 99, 100, 101, 102]
def q1 (c : UInt8) : List UInt8 :=
  if c = 10 then [92, 110] else if c = 9 then [92, 116] else if c = 13 then [92, 114] else if c = 0 then [92, 48]
  else if c = 34 ∨ c = 92 then [92, c] else if c.toNat < 32 ∨ 126 < c.toNat then [92, 120, hexT.getD (c.toNat / 16) 0, hexT.getD (c.toNat % 16) 0] else [c]
def quoteB (l : List UInt8) : List UInt8 := 34 :: (l.flatMap q1 ++ [34])
def errT : List (Int × List UInt8) := [(0, [111, 107]), (1, [97, 114, 103]), (2, [114, 97, 110, 103, 101]), (3, [110, 111, 110, 101]), (4, [116, 119, 105, 99, 101]), (5, [102, 117, 108, 108]), (6, [115, 116, 97, 116, 101]), (7, [102, 111, 114, 109]), (8, [101, 110, 100]), (9, [108, 111, 110, 103]), (10, [100, 101, 101, 112]), (20, [99, 104, 97, 114]), (21, [101, 115, 99, 97, 112, 101]), (22, [116, 111, 107, 101, 110]), (23, [115, 121, 110, 116, 97, 120]), (24, [116, 97, 114, 103, 101, 116]), (30, [97, 103, 97, 105, 110]), (31, [108, 97, 98, 101, 108]), (32, [98, 114, 101, 97, 107]), (33, [114, 101, 116, 117, 114, 110]), (34, [121, 105, 101, 108, 100]), (35, [115, 116, 114, 105, 99, 116]), (36, [99, 111, 110, 115, 116]), (40, [111, 112]), (41, [114, 101, 103]), (42, [106, 117, 109, 112]), (43, [112, 111, 111, 108]), (44, [103, 117, 97, 114, 100]), (50, [114, 101, 102]), (51, [107, 105, 110, 100])]
def endT : List (Int × List UInt8) := [(0, [110, 111, 114, 109, 97, 108]), (1, [116, 104, 114, 111, 119]), (6, [115, 116, 111, 112])]
def evT : List (List UInt8) := [[112, 114, 105, 110, 116], [103, 101, 116], [115, 101, 116], [104, 97, 115], [100, 101, 108, 101, 116, 101], [100, 101, 102, 105, 110, 101], [107, 101, 121, 115], [99, 97, 108, 108], [110, 101, 119], [116, 104, 114, 111, 119], [121, 105, 101, 108, 100], [106, 111, 98], [102, 105, 110, 97, 108]]
def tabB : List (Int × List UInt8) → Int → List UInt8
  | [], _ => []
  | (k, v) :: r, n => if n = k then v else tabB r n
def errB (e : Int) : List UInt8 := tabB errT e
def endB (e : Int) : List UInt8 := tabB endT e
def evB (k : Int) : List UInt8 := evT.getD (k - 1).toNat []
def inB (n : Int) : Prop := 0 ≤ n ∧ n ≤ 9007199254740992
def keyB (k : KeyP) : List UInt8 := if k.kind = 0 then [105, 110, 100, 101, 120, 32] ++ Lib.itoa k.n else if k.kind = 1 then [116, 101, 120, 116, 32] ++ quoteB (byS k.s) else [115, 121, 109, 98, 111, 108, 32] ++ Lib.itoa k.n
def evLine (e : EvP) : List UInt8 := [101, 118, 101, 110, 116, 32] ++ (evB e.kind ++ 32 :: (keyB e.key ++ 32 :: quoteB (byS e.s)))
def outLine (s : ByteArray) : List UInt8 := [111, 117, 116, 32] ++ quoteB (byS s)
def linesB (o : OutP) : List (List UInt8) :=
  if o.e ≠ 0 then [[101, 114, 114, 111, 114, 32] ++ (errB o.e ++ 32 :: Lib.itoa o.at_)]
  else ([101, 110, 100, 115, 32] ++ (endB o.fin ++ 32 :: quoteB (byS o.text))) :: ([115, 116, 101, 112, 115, 32] ++ Lib.itoa o.steps) :: ([109, 97, 100, 101, 32] ++ Lib.itoa o.made) :: (o.out.map outLine ++ o.log.map evLine)
def textB (o : OutP) : List UInt8 := (linesB o).flatMap (· ++ [10])
def Fr (c : UInt8) (l : List UInt8) : Prop := c ∉ l
theorem fr_cons {c x : UInt8} {b : List UInt8} (hx : c ≠ x) (hb : Fr c b) : Fr c (x :: b) := fun h => (List.mem_cons.1 h).elim hx hb
theorem dec_dig : ∀ (n : Nat), ∀ c ∈ Lib.decDigits n, 48 ≤ c.toNat ∧ c.toNat ≤ 57 := by
  intro n
  induction n using Nat.strongRecOn with
  | _ n ih =>
    rw [Lib.decDigits]
    intro c hc
    have hd : ∀ d, d < 10 → (UInt8.ofNat (48 + d)).toNat = 48 + d := fun d hd => by
      rw [UInt8.toNat_ofNat']
      omega
    by_cases h : n < 10
    · rw [dif_pos h, List.mem_singleton] at hc
      rw [hc, hd _ h]
      omega
    · rw [dif_neg h, List.mem_append, List.mem_singleton] at hc
      rcases hc with hc | hc
      · exact ih (n / 10) (by omega) c hc
      · rw [hc, hd _ (by omega)]
        omega
theorem itoa_dig (n : Int) : ∀ c ∈ Lib.itoa n, c.toNat = 45 ∨ 48 ≤ c.toNat ∧ c.toNat ≤ 57 := by
  intro c hc
  unfold Lib.itoa at hc
  split at hc
  · rcases List.mem_cons.1 hc with rfl | hc
    · exact .inl rfl
    · exact .inr (dec_dig _ _ hc)
  · exact .inr (dec_dig _ _ hc)
theorem itoa_fr (n : Int) {c : UInt8} (h : c.toNat < 45) : Fr c (Lib.itoa n) := fun hc => by
  have := itoa_dig n c hc
  omega
def dvalB (l : List UInt8) : Nat := l.foldl (fun a c => 10 * a + (c.toNat - 48)) 0
theorem dval_dec : ∀ n : Nat, dvalB (Lib.decDigits n) = n := by
  intro n
  induction n using Nat.strongRecOn with
  | _ n ih =>
    rw [Lib.decDigits]
    have hd : ∀ d, d < 10 → (UInt8.ofNat (48 + d)).toNat = 48 + d := fun d hd => by
      rw [UInt8.toNat_ofNat']
      omega
    by_cases h : n < 10
    · rw [dif_pos h]
      simp only [dvalB, List.foldl_cons, List.foldl_nil]
      rw [hd _ h]
      omega
    · rw [dif_neg h]
      have := ih (n / 10) (by omega)
      unfold dvalB at this ⊢
      rw [List.foldl_append, this]
      simp only [List.foldl_cons, List.foldl_nil]
      rw [hd _ (by omega)]
      omega
end Go.Proofs.YtmihpkdhfomcgaaGreatDoor.Ou
set_option maxRecDepth 20000
namespace Go.Proofs.YtmihpkdhfomcgaaGreatDoor.Ou
open Go
def ofB (l : List UInt8) : ByteArray := ⟨l.toArray⟩
theorem byS_ofB (l : List UInt8) : byS (ofB l) = l := by simp [byS, ofB]
theorem ofB_byS (s : ByteArray) : ofB (byS s) = s := byS_inj (byS_ofB _)
def cutB (c : UInt8) : List UInt8 → Option (List UInt8 × List UInt8)
  | [] => none
  | x :: r => if x = c then some ([], r) else (cutB c r).map fun p => (x :: p.1, p.2)
theorem cutB_some {c : UInt8} : ∀ {l a b : List UInt8}, cutB c l = some (a, b) → l = a ++ c :: b ∧ Fr c a
  | [], a, b, h => by cases h
  | x :: r, a, b, h => by
    unfold cutB at h
    split at h
    · rename_i hx
      cases h
      rw [hx]
      exact ⟨rfl, List.not_mem_nil⟩
    · rename_i hx
      cases hc : cutB c r with
      | none => rw [hc] at h; cases h
      | some p =>
        obtain ⟨p1, p2⟩ := p
        rw [hc] at h
        cases h
        obtain ⟨h1, h2⟩ := cutB_some hc
        exact ⟨by rw [h1]; rfl, fr_cons (fun e => hx e.symm) h2⟩
theorem cutB_app {c : UInt8} : ∀ {a b : List UInt8}, Fr c a → cutB c (a ++ c :: b) = some (a, b)
  | [], b, _ => by rw [List.nil_append, cutB, if_pos rfl]
  | x :: a, b, h => by
    rw [List.cons_append, cutB, if_neg (fun e => h (by rw [e]; exact List.mem_cons_self ..)), cutB_app (fun hh => h (List.mem_cons_of_mem _ hh))]
    rfl
theorem cutB_none {c : UInt8} : ∀ {l : List UInt8}, cutB c l = none → Fr c l
  | [], _ => List.not_mem_nil
  | x :: r, h => by
    unfold cutB at h
    split at h
    · cases h
    · rename_i hx
      cases hc : cutB c r with
      | none => exact fr_cons (fun e => hx e.symm) (cutB_none hc)
      | some p => rw [hc] at h; cases h
def numB (l : List UInt8) : Option Int := if ((dvalB l : Nat) : Int) ≤ 9007199254740992 ∧ Lib.itoa (dvalB l) = l then some (dvalB l) else none
theorem numB_some {l : List UInt8} {n : Int} (h : numB l = some n) : inB n ∧ Lib.itoa n = l := by
  unfold numB at h
  split at h
  · rename_i hc
    cases h
    exact ⟨⟨by omega, hc.1⟩, hc.2⟩
  · cases h
theorem numB_itoa {n : Int} (h : inB n) : numB (Lib.itoa n) = some n := by
  have hd : ((dvalB (Lib.itoa n) : Nat) : Int) = n := by
    unfold Lib.itoa
    rw [if_neg (by have := h.1; omega), dval_dec]
    have := h.1
    omega
  unfold numB
  rw [hd, if_pos ⟨h.2, rfl⟩]
def hexV (c : UInt8) : Option Nat := if 48 ≤ c.toNat ∧ c.toNat ≤ 57 then some (c.toNat - 48) else if 97 ≤ c.toNat ∧ c.toNat ≤ 102 then some (c.toNat - 87) else if 65 ≤ c.toNat ∧ c.toNat ≤ 70 then some (c.toNat - 55) else none
def hex2 : List UInt8 → Except Int (UInt8 × List UInt8)
  | [] => .error 8
  | a :: r => match hexV a with
    | none => .error 21
    | some x => match r with
      | [] => .error 8
      | b :: r => match hexV b with
        | none => .error 21
        | some y => .ok (UInt8.ofNat (16 * x + y), r)
def escB : List UInt8 → Except Int (UInt8 × List UInt8)
  | [] => .error 8
  | c :: r => if c = 110 then .ok (10, r) else if c = 116 then .ok (9, r) else if c = 114 then .ok (13, r) else if c = 48 then .ok (0, r)
    else if c = 92 ∨ c = 39 ∨ c = 34 ∨ c = 96 ∨ c = 36 then .ok (c, r) else if c = 120 then hex2 r else .error 21
def oneB (c : UInt8) (r : List UInt8) : Except Int (UInt8 × List UInt8) := if c = 92 then escB r else .ok (c, r)
def litB (q : UInt8) : Nat → List UInt8 → List UInt8 → Except Int (List UInt8 × List UInt8)
  | 0, _, _ => .error 8
  | _ + 1, [], _ => .error 8
  | f + 1, c :: r, out => if c = q then .ok (out, r) else if c = 10 ∨ c = 13 then .error 22 else match oneB c r with
    | .error e => .error e
    | .ok (b, r') => if 65536 < out.length + 1 then .error 9 else litB q f r' (out ++ [b])
def readL (l : List UInt8) : Except Int (List UInt8 × List UInt8) := match l with
  | [] => .error 1
  | q :: r => if q = 34 ∨ q = 39 then litB q (r.length + 1) r [] else .error 1
theorem oneB_q1 (c : UInt8) (r : List UInt8) : ∃ x y, q1 c ++ r = x :: y ∧ x ≠ 34 ∧ x ≠ 10 ∧ x ≠ 13 ∧ oneB x y = .ok (c, r) ∧ r.length ≤ y.length := by
  have hh : ∀ d, d < 16 → hexV (hexT.getD d 0) = some d := by decide +kernel
  unfold q1
  split
  · rename_i h; subst h; exact ⟨92, 110 :: r, rfl, by decide, by decide, by decide, rfl, by simp⟩
  split
  · rename_i h; subst h; exact ⟨92, 116 :: r, rfl, by decide, by decide, by decide, rfl, by simp⟩
  split
  · rename_i h; subst h; exact ⟨92, 114 :: r, rfl, by decide, by decide, by decide, rfl, by simp⟩
  split
  · rename_i h; subst h; exact ⟨92, 48 :: r, rfl, by decide, by decide, by decide, rfl, by simp⟩
  split
  · rename_i h
    refine ⟨92, c :: r, rfl, by decide, by decide, by decide, ?_, by simp⟩
    rcases h with h | h <;> subst h <;> rfl
  split
  · have := c.toNat_lt
    refine ⟨92, 120 :: hexT.getD (c.toNat / 16) 0 :: hexT.getD (c.toNat % 16) 0 :: r, rfl, by decide, by decide, by decide, ?_, by simp; omega⟩
    show hex2 (hexT.getD (c.toNat / 16) 0 :: hexT.getD (c.toNat % 16) 0 :: r) = _
    unfold hex2
    dsimp only
    rw [hh _ (by omega)]
    dsimp only
    rw [hh _ (by omega)]
    dsimp only
    congr 2
    rw [← UInt8.toNat_inj, UInt8.toNat_ofNat']
    omega
  · rename_i h1 h2 h3 h4 h5 h6
    rw [not_or] at h5
    exact ⟨c, r, rfl, h5.1, h1, h3, by unfold oneB; rw [if_neg h5.2], Nat.le_refl _⟩
theorem litB_quote : ∀ (t u out : List UInt8) (f : Nat), (t.flatMap q1 ++ 34 :: u).length < f → out.length + t.length ≤ 65536 → litB 34 f (t.flatMap q1 ++ 34 :: u) out = .ok (out ++ t, u)
  | [], u, out, f, hf, _ => by
    cases f with
    | zero => omega
    | succ f => rw [List.flatMap_nil, List.nil_append, litB, if_pos rfl, List.append_nil]
  | c :: t, u, out, f, hf, hl => by
    cases f with
    | zero => omega
    | succ f =>
      obtain ⟨x, y, h1, h2, h3, h4, h5, h6⟩ := oneB_q1 c (t.flatMap q1 ++ 34 :: u)
      rw [List.length_cons] at hl
      rw [List.flatMap_cons, List.append_assoc, h1] at hf ⊢
      rw [List.length_cons] at hf
      rw [litB, if_neg h2, if_neg (by rintro (h | h); exact h3 h; exact h4 h), h5]
      dsimp only
      rw [if_neg (by omega), litB_quote t u (out ++ [c]) f (by omega) (by simp; omega), List.append_assoc]
      rfl
theorem readL_quote (t u : List UInt8) (h : t.length ≤ 65536) : readL (quoteB t ++ u) = .ok (t, u) := by
  unfold quoteB
  rw [List.cons_append, List.append_assoc]
  unfold readL
  dsimp only
  rw [if_pos (.inl rfl)]
  exact (litB_quote t u [] _ (by simp) (by simpa using h))
theorem litB_len {q : UInt8} : ∀ (f : Nat) (l out t u : List UInt8), out.length ≤ 65536 → litB q f l out = .ok (t, u) → t.length ≤ 65536
  | 0, _, _, _, _, _, h => by cases h
  | _ + 1, [], _, _, _, _, h => by cases h
  | f + 1, c :: r, out, t, u, ho, h => by
    unfold litB at h
    split at h
    · cases h; exact ho
    split at h
    · cases h
    split at h
    · cases h
    · split at h
      · cases h
      · exact litB_len f _ _ t u (by simp; omega) h
def quotedB (l : List UInt8) : Option (List UInt8 × List UInt8) := match readL l with
  | .error _ => none
  | .ok (t, u) => if quoteB t ++ u = l then some (t, u) else none
theorem quotedB_some {l t u : List UInt8} (h : quotedB l = some (t, u)) : quoteB t ++ u = l ∧ t.length ≤ 65536 := by
  unfold quotedB at h
  split at h
  · cases h
  · rename_i t' u' hr
    split at h
    · rename_i hq
      cases h
      refine ⟨hq, ?_⟩
      unfold readL at hr
      split at hr
      · cases hr
      · split at hr
        · exact litB_len _ _ _ _ _ (by simp) hr
        · cases hr
    · cases h
def lastB (l : List UInt8) : Option (List UInt8) := match quotedB l with
  | some (t, []) => some t
  | _ => none
theorem lastB_some {l t : List UInt8} (h : lastB l = some t) : l = quoteB t := by
  unfold lastB at h
  split at h
  · rename_i t' hq
    cases h
    rw [← (quotedB_some hq).1, List.append_nil]
  · cases h
def findB : List (Int × List UInt8) → List UInt8 → Option Int
  | [], _ => none
  | (k, v) :: r, l => if v = l then some k else findB r l
theorem findB_some : ∀ {t : List (Int × List UInt8)} {l : List UInt8} {k : Int}, findB t l = some k → (k, l) ∈ t
  | (k', v) :: r, l, k, h => by
    unfold findB at h
    split at h
    · rename_i hv
      cases h
      rw [hv]
      exact List.mem_cons_self ..
    · exact List.mem_cons_of_mem _ (findB_some h)
def errT' : List (Int × List UInt8) := errT.tail
def evT' : List (Int × List UInt8) := (List.range 13).map fun (i : Nat) => ((i : Int) + 1, evT.getD i [])
theorem err_of {l : List UInt8} {k : Int} (h : findB errT' l = some k) : errB k = l ∧ k ≠ 0 ∧ l ≠ [] := by
  have hm := findB_some h
  have key : ∀ x ∈ errT', errB x.1 = x.2 ∧ x.1 ≠ 0 ∧ x.2 ≠ [] := by decide +kernel
  exact key _ hm
theorem end_of {l : List UInt8} {k : Int} (h : findB endT l = some k) : endB k = l ∧ l ≠ [] := by
  have hm := findB_some h
  have key : ∀ x ∈ endT, endB x.1 = x.2 ∧ x.2 ≠ [] := by decide +kernel
  exact key _ hm
theorem ev_of {l : List UInt8} {k : Int} (h : findB evT' l = some k) : evB k = l ∧ 1 ≤ k ∧ k ≤ 13 := by
  have hm := findB_some h
  have key : ∀ x ∈ evT', evB x.1 = x.2 ∧ 1 ≤ x.1 ∧ x.1 ≤ 13 := by decide +kernel
  exact key _ hm
section
variable (R : KeyP → Bool)
def keyOf (w l : List UInt8) : Option (KeyP × List UInt8) :=
  if w = [105, 110, 100, 101, 120] then match cutB 32 l with
    | none => none
    | some (d, u) => (numB d).map fun n => (⟨0, n, ⟨#[]⟩⟩, u)
  else if w = [116, 101, 120, 116] then match quotedB l with
    | some (t, c :: u) => if c = 32 then some (⟨1, 0, ofB t⟩, u) else none
    | _ => none
  else if w = [115, 121, 109, 98, 111, 108] then match cutB 32 l with
    | none => none
    | some (d, u) => (numB d).map fun n => (⟨2, n, ⟨#[]⟩⟩, u)
  else none
def keyRd (l : List UInt8) : Option (KeyP × List UInt8) := match cutB 32 l with
  | none => none
  | some (w, u) => match keyOf w u with
    | some (k, v) => if R k = true then some (k, v) else none
    | none => none
def evRd (l : List UInt8) : Option EvP := match cutB 32 l with
  | none => none
  | some (w, u) => match findB evT' w with
    | none => none
    | some kind => match keyRd R u with
      | none => none
      | some (k, v) => (lastB v).map fun s => ⟨kind, k, ofB s⟩
def lineRd (l : List UInt8) (hasLog : Bool) : Option (ByteArray ⊕ EvP) := match cutB 32 l with
  | none => none
  | some (w, u) => if w = [111, 117, 116] then (if hasLog = true then none else (lastB u).map fun s => .inl (ofB s))
    else if w = [101, 118, 101, 110, 116] then (evRd R u).map .inr else none
def restRd : Nat → Int → List UInt8 → OutP → Except (Int × Int) OutP
  | 0, k, _, _ => .error (k, 8)
  | _ + 1, _, [], o => .ok o
  | f + 1, k, c :: r, o => match cutB 10 (c :: r) with
    | none => .error (k + 1, 8)
    | some (l, s) => match lineRd R l (!o.log.isEmpty) with
      | none => .error (k + 1, 7)
      | some (.inl x) => restRd f (k + 1) s { o with out := o.out ++ [x] }
      | some (.inr x) => restRd f (k + 1) s { o with log := o.log ++ [x] }
def countRd (w l : List UInt8) : Option Int := match cutB 32 l with
  | none => none
  | some (v, u) => if v = w then numB u else none
def zeroO : OutP := ⟨0, 0, 0, ⟨#[]⟩, [], [], 0, 0⟩
def wrongRd (l s : List UInt8) : Except (Int × Int) OutP := match cutB 32 l with
  | none => .error (1, 7)
  | some (w, u) => match numB u with
    | none => .error (1, 7)
    | some n => match findB errT' w with
      | none => .error (1, 7)
      | some e => match s with
        | [] => .ok { zeroO with e := e, at_ := n }
        | c :: r => match cutB 10 (c :: r) with
          | none => .error (2, 8)
          | some _ => .error (2, 7)
def endsRd (l : List UInt8) : Option (Int × List UInt8) := match cutB 32 l with
  | none => none
  | some (w, u) => match findB endT w with
    | none => none
    | some k => (lastB u).map fun t => (k, t)
def bodyRd (fin : Int) (t s : List UInt8) : Except (Int × Int) OutP := match cutB 10 s with
  | none => .error (2, 8)
  | some (l2, s2) => match countRd [115, 116, 101, 112, 115] l2 with
    | none => .error (2, 7)
    | some n => match cutB 10 s2 with
      | none => .error (3, 8)
      | some (l3, s3) => match countRd [109, 97, 100, 101] l3 with
        | none => .error (3, 7)
        | some m => restRd R (s3.length + 1) 3 s3 { zeroO with fin := fin, text := ofB t, steps := n, made := m }
def readO (s : List UInt8) : Except (Int × Int) OutP := match cutB 10 s with
  | none => .error (1, 8)
  | some (l, s1) => match cutB 32 l with
    | none => .error (1, 7)
    | some (w, u) => if w = [101, 114, 114, 111, 114] then wrongRd u s1
      else if w = [101, 110, 100, 115] then match endsRd u with
        | none => .error (1, 7)
        | some (k, t) => bodyRd R k t s1
      else .error (1, 7)
def Shaped : Prop := ∀ k : KeyP, R k = true → (k.kind = 0 ∧ k.s = ⟨#[]⟩ ∨ k.kind = 1 ∧ k.n = 0 ∨ k.kind = 2 ∧ k.s = ⟨#[]⟩)
def EvR (e : EvP) : Prop := (1 ≤ e.kind ∧ e.kind ≤ 13) ∧ R e.key = true ∧ inB e.key.n
def MayO (o : OutP) : Prop :=
  if o.e ≠ 0 then errB o.e ≠ [] ∧ inB o.at_ ∧ o.fin = 0 ∧ o.text = ⟨#[]⟩ ∧ o.out = [] ∧ o.log = [] ∧ o.steps = 0 ∧ o.made = 0
  else o.at_ = 0 ∧ endB o.fin ≠ [] ∧ inB o.steps ∧ inB o.made ∧ ∀ e ∈ o.log, EvR R e
variable {R}
theorem keyOf_some {w l u : List UInt8} {k : KeyP} (h : keyOf w l = some (k, u)) : w ++ 32 :: l = keyB k ++ 32 :: u ∧ inB k.n := by
  unfold keyOf at h
  split at h
  · rename_i hw
    split at h
    · cases h
    · rename_i d v hc
      cases hn : numB d with
      | none => rw [hn] at h; cases h
      | some n =>
        rw [hn] at h
        cases h
        obtain ⟨h1, h2⟩ := numB_some hn
        refine ⟨?_, h1⟩
        rw [hw, (cutB_some hc).1]
        unfold keyB
        rw [if_pos rfl, h2]
        simp
  split at h
  · rename_i hw
    split at h
    · rename_i t c v hq
      split at h
      · rename_i hc
        cases h
        refine ⟨?_, Int.le_refl _, (by decide : (0 : Int) ≤ 9007199254740992)⟩
        rw [hw, ← (quotedB_some hq).1, hc]
        unfold keyB
        rw [if_neg (by simp), if_pos rfl, byS_ofB]
        simp
      · cases h
    · cases h
  split at h
  · rename_i hw
    split at h
    · cases h
    · rename_i d v hc
      cases hn : numB d with
      | none => rw [hn] at h; cases h
      | some n =>
        rw [hn] at h
        cases h
        obtain ⟨h1, h2⟩ := numB_some hn
        refine ⟨?_, h1⟩
        rw [hw, (cutB_some hc).1]
        unfold keyB
        rw [if_neg (by simp), if_neg (by simp), h2]
        simp
  · cases h
theorem evRd_some {l : List UInt8} {e : EvP} (h : evRd R l = some e) : [101, 118, 101, 110, 116, 32] ++ l = evLine e ∧ EvR R e := by
  unfold evRd at h
  split at h
  · cases h
  rename_i w u hc
  split at h
  · cases h
  rename_i kind hf
  split at h
  · cases h
  rename_i k v hk
  cases hl : lastB v with
  | none => rw [hl] at h; cases h
  | some s =>
    rw [hl] at h
    cases h
    unfold keyRd at hk
    split at hk
    · cases hk
    rename_i w2 u2 hc2
    split at hk
    · rename_i k' v' hko
      split at hk
      · rename_i hr
        cases hk
        obtain ⟨h1, h2⟩ := keyOf_some hko
        obtain ⟨h3, h4⟩ := ev_of hf
        refine ⟨?_, h4, hr, h2⟩
        unfold evLine
        rw [(cutB_some hc).1, (cutB_some hc2).1, h1, h3, lastB_some hl, byS_ofB]
      · cases hk
    · cases hk
theorem lineRd_some {l : List UInt8} {b : Bool} {x : ByteArray ⊕ EvP} (h : lineRd R l b = some x) : match x with | .inl s => l = outLine s ∧ b = false | .inr e => l = evLine e ∧ EvR R e := by
  unfold lineRd at h
  split at h
  · cases h
  rename_i w u hc
  split at h
  · rename_i hw
    split at h
    · cases h
    · rename_i hb
      cases hl : lastB u with
      | none => rw [hl] at h; cases h
      | some s =>
        rw [hl] at h
        cases h
        refine ⟨?_, by simpa using hb⟩
        unfold outLine
        rw [(cutB_some hc).1, hw, lastB_some hl, byS_ofB]
        rfl
  split at h
  · rename_i hw
    cases he : evRd R u with
    | none => rw [he] at h; cases h
    | some e =>
      rw [he] at h
      cases h
      obtain ⟨h1, h2⟩ := evRd_some he
      refine ⟨?_, h2⟩
      rw [(cutB_some hc).1, hw, ← h1]
      rfl
  · cases h
def tailB (o : OutP) : List UInt8 := (o.out.map outLine ++ o.log.map evLine).flatMap (· ++ [10])
theorem restRd_ok : ∀ (f : Nat) (k : Int) (s : List UInt8) (o o' : OutP), restRd R f k s o = .ok o' → (∀ e ∈ o.log, EvR R e) →
    tailB o ++ s = tailB o' ∧ (∀ e ∈ o'.log, EvR R e) ∧ o'.e = o.e ∧ o'.at_ = o.at_ ∧ o'.fin = o.fin ∧ o'.text = o.text ∧ o'.steps = o.steps ∧ o'.made = o.made
  | 0, _, _, _, _, h, _ => by cases h
  | _ + 1, _, [], o, o', h, hl => by cases h; exact ⟨List.append_nil _, hl, rfl, rfl, rfl, rfl, rfl, rfl⟩
  | f + 1, k, c :: r, o, o', h, hl => by
    unfold restRd at h
    split at h
    · cases h
    rename_i l s hc
    have hcs := (cutB_some hc).1
    split at h
    · cases h
    · rename_i x hx
      obtain ⟨h1, h2⟩ := lineRd_some hx
      have hlog : o.log = [] := by simpa using h2
      obtain ⟨h3, h4⟩ := restRd_ok f (k + 1) s _ o' h hl
      refine ⟨?_, h4⟩
      rw [← h3, hcs, h1]
      simp [tailB, hlog]
    · rename_i x hx
      obtain ⟨h1, h2⟩ := lineRd_some hx
      obtain ⟨h3, h4⟩ := restRd_ok f (k + 1) s _ o' h (fun e he => (List.mem_append.1 he).elim (hl e) (fun h => by rw [List.mem_singleton.1 h]; exact h2))
      refine ⟨?_, h4⟩
      rw [← h3, hcs, h1]
      simp [tailB]
theorem countRd_some {w l : List UInt8} {n : Int} (h : countRd w l = some n) : l = w ++ 32 :: Lib.itoa n ∧ inB n := by
  unfold countRd at h
  split at h
  · cases h
  rename_i v u hc
  split at h
  · rename_i hv
    obtain ⟨h1, h2⟩ := numB_some h
    rw [(cutB_some hc).1, hv, h2]
    exact ⟨rfl, h1⟩
  · cases h
theorem endsRd_some {l t : List UInt8} {k : Int} (h : endsRd l = some (k, t)) : l = endB k ++ 32 :: quoteB t ∧ endB k ≠ [] := by
  unfold endsRd at h
  split at h
  · cases h
  rename_i w u hc
  split at h
  · cases h
  rename_i k' hf
  cases hl : lastB u with
  | none => rw [hl] at h; cases h
  | some t' =>
    rw [hl] at h
    cases h
    obtain ⟨h1, h2⟩ := end_of hf
    rw [(cutB_some hc).1, h1, lastB_some hl]
    exact ⟨rfl, h2⟩
theorem readO_ok {s : List UInt8} {o : OutP} (h : readO R s = .ok o) : textB o = s ∧ MayO R o := by
  unfold readO at h
  split at h
  · cases h
  rename_i l s1 hc1
  split at h
  · cases h
  rename_i w u hc2
  rw [(cutB_some hc1).1, (cutB_some hc2).1]
  split at h
  · rename_i hw
    unfold wrongRd at h
    split at h
    · cases h
    rename_i w2 u2 hc3
    split at h
    · cases h
    rename_i n hn
    split at h
    · cases h
    rename_i e he
    split at h
    · cases h
      obtain ⟨h1, h2, h3⟩ := err_of he
      obtain ⟨h4, h5⟩ := numB_some hn
      refine ⟨?_, ?_⟩
      · unfold textB linesB
        rw [if_pos h2]
        rw [hw, (cutB_some hc3).1]
        dsimp only
        rw [h1, h5]
        simp
      · unfold MayO
        rw [if_pos h2]
        exact ⟨by dsimp only; rw [h1]; exact h3, h4, rfl, rfl, rfl, rfl, rfl, rfl⟩
    · split at h <;> cases h
  split at h
  · rename_i hw
    split at h
    · cases h
    rename_i k t he
    unfold bodyRd at h
    split at h
    · cases h
    rename_i l2 s2 hc3
    split at h
    · cases h
    rename_i n hn
    split at h
    · cases h
    rename_i l3 s3 hc4
    split at h
    · cases h
    rename_i m hm
    obtain ⟨h1, h2, h3, h4, h5, h6, h7, h8⟩ := restRd_ok _ _ _ _ _ h (by intro e he; cases he)
    obtain ⟨h9, h10⟩ := endsRd_some he
    obtain ⟨h11, h12⟩ := countRd_some hn
    obtain ⟨h13, h14⟩ := countRd_some hm
    obtain ⟨oe, oat, of, otx, oo, ol, os, om⟩ := o
    dsimp only at h2 h3 h4 h5 h6 h7 h8
    rw [show oe = 0 from h3, show oat = 0 from h4, h5, h6, h7, h8] at *
    refine ⟨?_, ?_⟩
    · unfold textB linesB
      rw [if_neg (by simp)]
      have h1' : s3 = tailB ⟨oe, oat, of, otx, oo, ol, os, om⟩ := h1
      simp only [List.flatMap_cons]
      rw [hw, (cutB_some hc3).1, (cutB_some hc4).1, h9, h11, h13, h1']
      unfold tailB
      simp [byS_ofB]
    · unfold MayO
      rw [if_neg (by simp)]
      exact ⟨rfl, h10, h12, h14, h2⟩
  · cases h
end
end Go.Proofs.YtmihpkdhfomcgaaGreatDoor.Ou
