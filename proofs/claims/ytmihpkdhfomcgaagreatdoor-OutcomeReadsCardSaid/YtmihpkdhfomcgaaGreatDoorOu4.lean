/- The reference reads outcomes as the program does, plainly. No statement of the seat is proved here. -/
import Derived.Test.YtmihpkdhfomcgaaGreatDoorMa
set_option maxRecDepth 20000
namespace Go.Proofs.YtmihpkdhfomcgaaGreatDoor.Ou
open Go
/-- a cursor: what is left of the line, or none: one past the line's end -/
abbrev Cu := Option (List UInt8)
def skipC : List UInt8 → Cu
  | [] => none
  | _ :: r => some r
def wordR : Cu → Option (List UInt8 × Cu)
  | none => none
  | some l => if l.takeWhile (fun c => decide (c ≠ 32)) = [] then none else some (l.takeWhile (fun c => decide (c ≠ 32)), skipC (l.drop (l.takeWhile (fun c => decide (c ≠ 32))).length))
def numberR (c : Cu) : Option (Int × Cu) := match wordR c with
  | none => none
  | some (w, c') => (numB w).map fun n => (n, c')
def quotedR : Cu → Option (List UInt8 × Cu)
  | none => none
  | some l => match readL l with
    | .error _ => none
    | .ok (t, u) => if quoteB t ++ u = l ∧ (u = [] ∨ u.head? = some 32) then some (t, skipC u) else none
theorem take_cut {l a b : List UInt8} (h : cutB 32 l = some (a, b)) : l.takeWhile (fun c => decide (c ≠ 32)) = a ∧ l.drop a.length = 32 :: b := by
  obtain ⟨h1, h2⟩ := cutB_some h
  subst h1
  refine ⟨?_, by simp⟩
  rw [List.takeWhile_append_of_pos (fun x hx => by
    have : x ≠ 32 := fun e => h2 (by rw [← e]; exact hx)
    simpa using this)]
  simp
theorem take_all {p : UInt8 → Bool} : ∀ {l : List UInt8}, (∀ x ∈ l, p x = true) → l.takeWhile p = l
  | [], _ => rfl
  | x :: r, h => by rw [List.takeWhile_cons, if_pos (h x (List.mem_cons_self ..)), take_all (fun y hy => h y (List.mem_cons_of_mem _ hy))]
theorem take_none {l : List UInt8} (h : cutB 32 l = none) : l.takeWhile (fun c => decide (c ≠ 32)) = l := by
  have := cutB_none h
  refine take_all fun x hx => ?_
  have : x ≠ 32 := fun e => this (by rw [← e]; exact hx)
  simpa using this
theorem wordR_cut {l a b : List UInt8} (h : cutB 32 l = some (a, b)) : wordR (some l) = if a = [] then none else some (a, some b) := by
  obtain ⟨h1, h2⟩ := take_cut h
  simp only [wordR, h1, h2]
  rfl
theorem wordR_none {l : List UInt8} (h : cutB 32 l = none) : wordR (some l) = if l = [] then none else some (l, none) := by
  simp only [wordR, take_none h]
  simp [skipC]
/-- the whole rest of a line as a number -/
theorem number_over (l : List UInt8) : (match numberR (some l) with | some (n, none) => some n | _ => none) = numB l := by
  unfold numberR
  cases hc : cutB 32 l with
  | none =>
    rw [wordR_none hc]
    by_cases hl : l = []
    · subst hl
      rw [if_pos rfl]
      dsimp only
      cases hn : numB [] with
      | none => rfl
      | some n =>
        have := (numB_some hn).2
        unfold Lib.itoa at this
        have hne : ∀ n, Lib.decDigits n ≠ [] := fun n => by rw [Lib.decDigits]; split <;> simp
        split at this
        · cases this
        · exact absurd this (hne _)
    · rw [if_neg hl]
      dsimp only
      cases numB l <;> rfl
  | some p =>
    obtain ⟨a, b⟩ := p
    have hn : numB l = none := by
      cases hn : numB l with
      | none => rfl
      | some n =>
        have h1 := (numB_some hn).2
        have h2 := (cutB_some hc).1
        rw [h2] at h1
        exact absurd (by rw [h1]; simp) (itoa_fr n (c := 32) (by decide))
    rw [hn, wordR_cut hc]
    by_cases ha : a = []
    · rw [if_pos ha]
    · rw [if_neg ha]
      dsimp only
      cases numB a <;> rfl
theorem last_over (l : List UInt8) : (match quotedR (some l) with | some (t, none) => some t | _ => none) = lastB l := by
  unfold lastB quotedB
  simp only [quotedR]
  cases readL l with
  | error e => rfl
  | ok p =>
    obtain ⟨t, u⟩ := p
    dsimp only
    by_cases hq : quoteB t ++ u = l
    · cases u with
      | nil => rw [if_pos ⟨hq, .inl rfl⟩, if_pos hq]; rfl
      | cons c r =>
        rw [if_pos hq]
        by_cases hc : c = 32
        · rw [if_pos ⟨hq, .inr (by rw [hc]; rfl)⟩]; rfl
        · rw [if_neg (fun h => h.2.elim (by simp) (by simp [hc]))]
    · rw [if_neg (fun h => hq h.1), if_neg hq]
inductive LineR
  | error (e at_ : Int) | ends (k : Int) (t : List UInt8) | steps (n : Int) | made (n : Int) | out (t : List UInt8) | event (e : EvP)
section
variable (R : KeyP → Bool)
/-- an event's line behind its first word -/
def eventR (c : Cu) : Option EvP := match wordR c with
  | none => none
  | some (w, c1) => match wordR c1 with
    | none => none
    | some (k, c2) => match findB evT' w with
      | none => none
      | some kind =>
        let key : Option (KeyP × Cu) := if k = [105, 110, 100, 101, 120] then (numberR c2).map fun p => (⟨0, p.1, ⟨#[]⟩⟩, p.2)
          else if k = [116, 101, 120, 116] then (quotedR c2).map fun p => (⟨1, 0, ofB p.1⟩, p.2)
          else if k = [115, 121, 109, 98, 111, 108] then (numberR c2).map fun p => (⟨2, p.1, ⟨#[]⟩⟩, p.2) else none
        match key with
        | none => none
        | some (kk, c3) => match quotedR c3 with
          | some (s, none) => if R kk = true then some ⟨kind, kk, ofB s⟩ else none
          | _ => none
def oneR (l : List UInt8) : Option LineR := match wordR (some l) with
  | none => none
  | some (w, c) =>
    if w = [101, 114, 114, 111, 114] then match wordR c with
      | none => none
      | some (x, c1) => match findB errT' x with
        | none => none
        | some k => match numberR c1 with
          | some (n, none) => some (.error k n)
          | _ => none
    else if w = [101, 110, 100, 115] then match wordR c with
      | none => none
      | some (x, c1) => match findB endT x with
        | none => none
        | some k => match quotedR c1 with
          | some (t, none) => some (.ends k t)
          | _ => none
    else if w = [115, 116, 101, 112, 115] then match numberR c with
      | some (n, none) => some (.steps n)
      | _ => none
    else if w = [109, 97, 100, 101] then match numberR c with
      | some (n, none) => some (.made n)
      | _ => none
    else if w = [111, 117, 116] then match quotedR c with
      | some (t, none) => some (.out t)
      | _ => none
    else if w = [101, 118, 101, 110, 116] then (eventR R c).map .event
    else none
/-- the line ahead: nothing yet, or the last line's first word -/
inductive St where
  | start | error | ends | steps | made | out | event
deriving DecidableEq
def fitsR : St → LineR → Bool
  | .start, .error _ _ => true
  | .start, .ends _ _ => true
  | .ends, .steps _ => true
  | .steps, .made _ => true
  | .made, .out _ => true
  | .made, .event _ => true
  | .out, .out _ => true
  | .out, .event _ => true
  | .event, .event _ => true
  | _, _ => false
def putR (o : OutP) : LineR → OutP × St
  | .error e n => ({ o with e := e, at_ := n }, .error)
  | .ends k t => ({ o with fin := k, text := ofB t }, .ends)
  | .steps n => ({ o with steps := n }, .steps)
  | .made n => ({ o with made := n }, .made)
  | .out t => ({ o with out := o.out ++ [ofB t] }, .out)
  | .event e => ({ o with log := o.log ++ [e] }, .event)
def moreR (st : St) (s : List UInt8) : Bool := !s.isEmpty || st = .start || st = .ends || st = .steps
def runR : Nat → Int → St → List UInt8 → OutP → Except (Int × Int) OutP
  | 0, k, _, _, _ => .error (k, 8)
  | f + 1, k, st, s, o => if moreR st s = true then match cutB 10 s with
      | none => .error (k, 8)
      | some (l, r) => match oneR R l with
        | none => .error (k, 7)
        | some x => if fitsR st x = true then runR f (k + 1) (putR o x).2 r (putR o x).1 else .error (k, 7)
    else .ok o
def readR (s : List UInt8) : Except (Int × Int) OutP := runR R (s.length + 2) 1 .start s zeroO
variable {R}
theorem numB_nil : numB [] = none := by
  cases hn : numB [] with
  | none => rfl
  | some n =>
    have := (numB_some hn).2
    unfold Lib.itoa at this
    have hne : ∀ n, Lib.decDigits n ≠ [] := fun n => by rw [Lib.decDigits]; split <;> simp
    split at this
    · cases this
    · exact absurd this (hne _)
theorem numberR_cut {l a b : List UInt8} (h : cutB 32 l = some (a, b)) : numberR (some l) = (numB a).map fun n => (n, some b) := by
  unfold numberR
  rw [wordR_cut h]
  by_cases ha : a = []
  · rw [if_pos ha, ha, numB_nil]; rfl
  · rw [if_neg ha]
theorem numberR_end {l : List UInt8} (h : cutB 32 l = none) : numberR (some l) = (numB l).map fun n => (n, none) := by
  unfold numberR
  rw [wordR_none h]
  by_cases ha : l = []
  · rw [if_pos ha, ha, numB_nil]; rfl
  · rw [if_neg ha]
theorem find_nil : findB errT' [] = none ∧ findB endT [] = none ∧ findB evT' [] = none := by decide +kernel
/-- a key and what follows it, at a cursor -/
def keyC (k : List UInt8) (c : Cu) : Option (KeyP × Cu) := if k = [105, 110, 100, 101, 120] then (numberR c).map fun p => (⟨0, p.1, ⟨#[]⟩⟩, p.2)
  else if k = [116, 101, 120, 116] then (quotedR c).map fun p => (⟨1, 0, ofB p.1⟩, p.2)
  else if k = [115, 121, 109, 98, 111, 108] then (numberR c).map fun p => (⟨2, p.1, ⟨#[]⟩⟩, p.2) else none
theorem keyC_none (k : List UInt8) : keyC k none = none := by
  unfold keyC
  repeat' split
  all_goals rfl
theorem keyC_some (k l : List UInt8) : match keyC k (some l) with
    | some (kk, some v) => keyOf k l = some (kk, v)
    | _ => keyOf k l = none := by
  unfold keyC keyOf
  by_cases h1 : k = [105, 110, 100, 101, 120]
  · rw [if_pos h1, if_pos h1]
    cases hc : cutB 32 l with
    | none =>
      rw [numberR_end hc]
      dsimp only
      cases numB l <;> rfl
    | some p =>
      obtain ⟨a, b⟩ := p
      rw [numberR_cut hc]
      dsimp only
      cases numB a <;> rfl
  rw [if_neg h1, if_neg h1]
  by_cases h2 : k = [116, 101, 120, 116]
  · rw [if_pos h2, if_pos h2]
    unfold quotedB
    simp only [quotedR]
    cases readL l with
    | error e => rfl
    | ok p =>
      obtain ⟨t, u⟩ := p
      dsimp only
      by_cases hq : quoteB t ++ u = l
      · rw [if_pos hq]
        cases u with
        | nil => rw [if_pos ⟨hq, .inl rfl⟩]; rfl
        | cons c r =>
          by_cases hc : c = 32
          · rw [if_pos ⟨hq, .inr (by rw [hc]; rfl)⟩]
            show (if c = 32 then _ else _) = _
            rw [if_pos hc]
          · rw [if_neg (fun h => h.2.elim (by simp) (by simp [hc]))]
            show (if c = 32 then _ else _) = _
            rw [if_neg hc]
      · rw [if_neg (fun h => hq h.1), if_neg hq]; rfl
  rw [if_neg h2, if_neg h2]
  by_cases h3 : k = [115, 121, 109, 98, 111, 108]
  · rw [if_pos h3, if_pos h3]
    cases hc : cutB 32 l with
    | none =>
      rw [numberR_end hc]
      dsimp only
      cases numB l <;> rfl
    | some p =>
      obtain ⟨a, b⟩ := p
      rw [numberR_cut hc]
      dsimp only
      cases numB a <;> rfl
  rw [if_neg h3, if_neg h3]
theorem event_eq (l : List UInt8) : eventR R (some l) = evRd R l := by
  unfold eventR evRd
  cases hc : cutB 32 l with
  | none =>
    rw [wordR_none hc]
    by_cases hl : l = []
    · rw [if_pos hl]
    · rw [if_neg hl]; rfl
  | some p =>
    obtain ⟨w, u⟩ := p
    rw [wordR_cut hc]
    dsimp only
    by_cases hw : w = []
    · rw [if_pos hw, hw, find_nil.2.2]
    rw [if_neg hw]
    dsimp only
    unfold keyRd
    cases hf : findB evT' w with
    | none =>
      cases wordR (some u) <;> rfl
    | some kind =>
      dsimp only
      cases hc2 : cutB 32 u with
      | none =>
        rw [wordR_none hc2]
        by_cases hu : u = []
        · rw [if_pos hu]
        · rw [if_neg hu]
          dsimp only
          rw [show (if u = [105, 110, 100, 101, 120] then (numberR none).map fun p => ((⟨0, p.1, ⟨#[]⟩⟩ : KeyP), p.2) else if u = [116, 101, 120, 116] then (quotedR none).map fun p => ((⟨1, 0, ofB p.1⟩ : KeyP), p.2) else if u = [115, 121, 109, 98, 111, 108] then (numberR none).map fun p => ((⟨2, p.1, ⟨#[]⟩⟩ : KeyP), p.2) else none) = none from keyC_none u]
      | some p =>
        obtain ⟨k, u2⟩ := p
        rw [wordR_cut hc2]
        have hk := keyC_some k u2
        dsimp only
        by_cases hke : k = []
        · rw [if_pos hke, hke]
          rfl
        rw [if_neg hke]
        dsimp only
        rw [show (if k = [105, 110, 100, 101, 120] then (numberR (some u2)).map fun p => ((⟨0, p.1, ⟨#[]⟩⟩ : KeyP), p.2) else if k = [116, 101, 120, 116] then (quotedR (some u2)).map fun p => ((⟨1, 0, ofB p.1⟩ : KeyP), p.2) else if k = [115, 121, 109, 98, 111, 108] then (numberR (some u2)).map fun p => ((⟨2, p.1, ⟨#[]⟩⟩ : KeyP), p.2) else none) = keyC k (some u2) from rfl]
        cases hkc : keyC k (some u2) with
        | none =>
          rw [hkc] at hk
          dsimp only at hk
          rw [hk]
        | some q =>
          obtain ⟨kk, c3⟩ := q
          rw [hkc] at hk
          cases c3 with
          | none =>
            dsimp only at hk
            rw [hk]
            rfl
          | some v =>
            dsimp only at hk
            rw [hk]
            dsimp only
            have hl := last_over v
            by_cases hr : R kk = true
            · rw [if_pos hr]
              dsimp only
              rw [← hl]
              cases hq : quotedR (some v) with
              | none => rfl
              | some z =>
                obtain ⟨t, c4⟩ := z
                cases c4 with
                | none => dsimp only; rw [if_pos hr]; rfl
                | some _ => rfl
            · rw [if_neg hr]
              dsimp only
              cases hq : quotedR (some v) with
              | none => rfl
              | some z =>
                obtain ⟨t, c4⟩ := z
                cases c4 with
                | none => dsimp only; rw [if_neg hr]
                | some _ => rfl
theorem oneR_none {l : List UInt8} (h : cutB 32 l = none) : oneR R l = none := by
  unfold oneR
  rw [wordR_none h]
  by_cases hl : l = []
  · rw [if_pos hl]
  · rw [if_neg hl]
    simp only [show wordR none = none from rfl, show numberR none = none from rfl, show quotedR none = none from rfl, show eventR R none = none from rfl]
    repeat' split
    all_goals rfl
/-- the kinds of lines, by the first word -/
def oneW (w u : List UInt8) : Option LineR :=
  if w = [101, 114, 114, 111, 114] then match cutB 32 u with
    | none => none
    | some (x, u1) => match findB errT' x with
      | none => none
      | some k => (numB u1).map (.error k)
  else if w = [101, 110, 100, 115] then (endsRd u).map fun p => .ends p.1 p.2
  else if w = [115, 116, 101, 112, 115] then (numB u).map .steps
  else if w = [109, 97, 100, 101] then (numB u).map .made
  else if w = [111, 117, 116] then (lastB u).map .out
  else if w = [101, 118, 101, 110, 116] then (evRd R u).map .event
  else none
theorem num_map {α : Type} (f : Int → α) (u : List UInt8) : (match numberR (some u) with | some (n, none) => some (f n) | _ => none) = (numB u).map f := by
  rw [← number_over u]
  cases numberR (some u) with
  | none => rfl
  | some p => obtain ⟨n, c⟩ := p; cases c <;> rfl
theorem last_map {α : Type} (f : List UInt8 → α) (u : List UInt8) : (match quotedR (some u) with | some (n, none) => some (f n) | _ => none) = (lastB u).map f := by
  rw [← last_over u]
  cases quotedR (some u) with
  | none => rfl
  | some p => obtain ⟨n, c⟩ := p; cases c <;> rfl
theorem oneR_cut {l w u : List UInt8} (h : cutB 32 l = some (w, u)) : oneR R l = oneW (R := R) w u := by
  unfold oneR oneW
  rw [wordR_cut h]
  by_cases hw : w = []
  · rw [if_pos hw, hw]; rfl
  rw [if_neg hw]
  dsimp only
  by_cases h1 : w = [101, 114, 114, 111, 114]
  · rw [if_pos h1, if_pos h1]
    cases hc : cutB 32 u with
    | none =>
      rw [wordR_none hc]
      by_cases hu : u = []
      · rw [if_pos hu]
      · rw [if_neg hu]
        dsimp only
        cases findB errT' u <;> rfl
    | some p =>
      obtain ⟨x, u1⟩ := p
      rw [wordR_cut hc]
      by_cases hx : x = []
      · rw [if_pos hx, hx]
        dsimp only
        rw [find_nil.1]
      · rw [if_neg hx]
        dsimp only
        cases findB errT' x with
        | none => rfl
        | some k => exact num_map (LineR.error k) u1
  rw [if_neg h1, if_neg h1]
  by_cases h2 : w = [101, 110, 100, 115]
  · rw [if_pos h2, if_pos h2]
    unfold endsRd
    cases hc : cutB 32 u with
    | none =>
      rw [wordR_none hc]
      by_cases hu : u = []
      · rw [if_pos hu]; rfl
      · rw [if_neg hu]
        dsimp only
        cases findB endT u <;> rfl
    | some p =>
      obtain ⟨x, u1⟩ := p
      rw [wordR_cut hc]
      by_cases hx : x = []
      · rw [if_pos hx, hx]
        dsimp only
        rw [find_nil.2.1]
        rfl
      · rw [if_neg hx]
        dsimp only
        cases findB endT x with
        | none => rfl
        | some k =>
          dsimp only
          rw [Option.map_map]
          exact last_map (LineR.ends k) u1
  rw [if_neg h2, if_neg h2]
  by_cases h3 : w = [115, 116, 101, 112, 115]
  · rw [if_pos h3, if_pos h3]; exact num_map LineR.steps u
  rw [if_neg h3, if_neg h3]
  by_cases h4 : w = [109, 97, 100, 101]
  · rw [if_pos h4, if_pos h4]; exact num_map LineR.made u
  rw [if_neg h4, if_neg h4]
  by_cases h5 : w = [111, 117, 116]
  · rw [if_pos h5, if_pos h5]; exact last_map LineR.out u
  rw [if_neg h5, if_neg h5]
  by_cases h6 : w = [101, 118, 101, 110, 116]
  · rw [if_pos h6, if_pos h6, event_eq]
  rw [if_neg h6, if_neg h6]
/-- what a line of another kind does not answer -/
theorem oneW_kind {w u : List UInt8} {x : LineR} (h : oneW (R := R) w u = some x) : match x with
    | .error _ _ => w = [101, 114, 114, 111, 114] | .ends _ _ => w = [101, 110, 100, 115] | .steps _ => w = [115, 116, 101, 112, 115] | .made _ => w = [109, 97, 100, 101] | .out _ => w = [111, 117, 116] | .event _ => w = [101, 118, 101, 110, 116] := by
  unfold oneW at h
  split at h
  · rename_i hw
    split at h
    · cases h
    split at h
    · cases h
    · obtain ⟨a, _, rfl⟩ := Option.map_eq_some_iff.1 h
      exact hw
  split at h
  · rename_i hw; obtain ⟨a, _, rfl⟩ := Option.map_eq_some_iff.1 h; exact hw
  split at h
  · rename_i hw; obtain ⟨a, _, rfl⟩ := Option.map_eq_some_iff.1 h; exact hw
  split at h
  · rename_i hw; obtain ⟨a, _, rfl⟩ := Option.map_eq_some_iff.1 h; exact hw
  split at h
  · rename_i hw; obtain ⟨a, _, rfl⟩ := Option.map_eq_some_iff.1 h; exact hw
  split at h
  · rename_i hw; obtain ⟨a, _, rfl⟩ := Option.map_eq_some_iff.1 h; exact hw
  · cases h
theorem len_cut {s l r : List UInt8} (h : cutB 10 s = some (l, r)) : r.length + l.length + 1 = s.length := by
  have := congrArg List.length (cutB_some h).1
  rw [List.length_append, List.length_cons] at this
  omega
/-- the lines behind the first three -/
theorem rest_eq : ∀ (f f' : Nat) (k : Int) (st : St) (s : List UInt8) (o : OutP), s.length < f → s.length < f' → ((st = .made ∨ st = .out) ∧ o.log = [] ∨ st = .event ∧ o.log ≠ []) → runR R f' (k + 1) st s o = restRd R f k s o
  | 0, _, _, _, _, _, h, _, _ => by omega
  | _, 0, _, _, _, _, _, h, _ => by omega
  | f + 1, f' + 1, k, st, [], o, _, _, hst => by
    unfold runR restRd
    rw [if_neg (by rcases hst with ⟨h | h, _⟩ | ⟨h, _⟩ <;> subst h <;> decide)]
  | f + 1, f' + 1, k, st, c :: r, o, h1, h2, hst => by
    unfold runR restRd
    rw [if_pos (by simp [moreR])]
    cases hc : cutB 10 (c :: r) with
    | none => rfl
    | some p =>
      obtain ⟨l, s⟩ := p
      have hl := len_cut hc
      rw [List.length_cons] at hl h1 h2
      dsimp only
      unfold lineRd
      cases hw : cutB 32 l with
      | none => rw [oneR_none hw]
      | some q =>
        obtain ⟨w, u⟩ := q
        rw [oneR_cut hw]
        dsimp only
        by_cases h5 : w = [111, 117, 116]
        · rw [if_pos h5]
          have ho : oneW (R := R) w u = (lastB u).map .out := by unfold oneW; rw [h5]; rfl
          rw [ho]
          rcases hst with ⟨hst, hlog⟩ | ⟨hst, hlog⟩
          · have hne : (!o.log.isEmpty) = false := by rw [hlog]; rfl
            rw [hne]
            cases lastB u with
            | none => rfl
            | some t =>
              have hf : fitsR st (.out t) = true := by rcases hst with rfl | rfl <;> rfl
              show (if fitsR st (.out t) = true then runR R f' (k + 1 + 1) .out s _ else _) = restRd R f (k + 1) s _
              rw [if_pos hf]
              exact rest_eq f f' (k + 1) .out s _ (by omega) (by omega) (.inl ⟨.inr rfl, hlog⟩)
          · subst hst
            have hne : (!o.log.isEmpty) = true := by cases hq : o.log with | nil => exact absurd hq hlog | cons _ _ => rfl
            rw [hne]
            cases lastB u with
            | none => rfl
            | some t => rfl
        rw [if_neg h5]
        by_cases h6 : w = [101, 118, 101, 110, 116]
        · rw [if_pos h6]
          have ho : oneW (R := R) w u = (evRd R u).map .event := by unfold oneW; rw [h6]; rfl
          rw [ho]
          cases evRd R u with
          | none => rfl
          | some e =>
            have hf : fitsR st (.event e) = true := by rcases hst with ⟨rfl | rfl, _⟩ | ⟨rfl, _⟩ <;> rfl
            show (if fitsR st (.event e) = true then runR R f' (k + 1 + 1) .event s _ else _) = restRd R f (k + 1) s _
            rw [if_pos hf]
            exact rest_eq f f' (k + 1) .event s _ (by omega) (by omega) (.inr ⟨rfl, by simp [putR]⟩)
        rw [if_neg h6]
        cases ho : oneW (R := R) w u with
        | none => rfl
        | some x =>
          have hk := oneW_kind ho
          dsimp only
          have hf : fitsR st x = false := by
            cases x with
            | out t => exact absurd hk h5
            | event e => exact absurd hk h6
            | _ => rcases hst with ⟨rfl | rfl, _⟩ | ⟨rfl, _⟩ <;> rfl
          rw [hf]
          rfl
/-- THE REFERENCE READS AS THE PROGRAM DOES -/
theorem read_eq (s : List UInt8) : readR R s = readO R s := by
  unfold readR readO
  rw [runR, if_pos (by simp [moreR])]
  cases hc : cutB 10 s with
  | none => rfl
  | some p =>
    obtain ⟨l, s1⟩ := p
    have hl := len_cut hc
    dsimp only
    cases hw : cutB 32 l with
    | none => rw [oneR_none hw]
    | some q =>
      obtain ⟨w, u⟩ := q
      rw [oneR_cut hw]
      dsimp only
      by_cases h1 : w = [101, 114, 114, 111, 114]
      · rw [if_pos h1]
        unfold oneW wrongRd
        rw [if_pos h1]
        cases hu : cutB 32 u with
        | none => rfl
        | some q2 =>
          obtain ⟨w2, u2⟩ := q2
          dsimp only
          cases hf : findB errT' w2 with
          | none => cases numB u2 <;> rfl
          | some e =>
            dsimp only
            cases hn : numB u2 with
            | none => rfl
            | some n =>
              show runR R (s.length + 1) 2 .error s1 _ = _
              rw [runR]
              cases s1 with
              | nil => rfl
              | cons c r =>
                rw [if_pos (by simp [moreR])]
                dsimp only
                cases hc2 : cutB 10 (c :: r) with
                | none => rfl
                | some q3 =>
                  obtain ⟨l2, s2⟩ := q3
                  dsimp only
                  cases oneR R l2 with
                  | none => rfl
                  | some x => cases x <;> rfl
      rw [if_neg h1]
      by_cases h2 : w = [101, 110, 100, 115]
      · rw [if_pos h2]
        have ho : oneW (R := R) w u = (endsRd u).map fun p => .ends p.1 p.2 := by unfold oneW; rw [h2]; rfl
        rw [ho]
        cases he : endsRd u with
        | none => rfl
        | some q2 =>
          obtain ⟨k, t⟩ := q2
          show runR R (s.length + 1) 2 .ends s1 _ = bodyRd R k t s1
          unfold bodyRd
          rw [runR, if_pos (by simp [moreR])]
          cases hc2 : cutB 10 s1 with
          | none => rfl
          | some q3 =>
            obtain ⟨l2, s2⟩ := q3
            have hl2 := len_cut hc2
            dsimp only
            unfold countRd
            cases hw2 : cutB 32 l2 with
            | none => rw [oneR_none hw2]
            | some q4 =>
              obtain ⟨w2, u2⟩ := q4
              rw [oneR_cut hw2]
              dsimp only
              by_cases h3 : w2 = [115, 116, 101, 112, 115]
              · rw [if_pos h3]
                have ho : oneW (R := R) w2 u2 = (numB u2).map .steps := by unfold oneW; rw [h3]; rfl
                rw [ho]
                cases hn : numB u2 with
                | none => rfl
                | some n =>
                  show runR R s.length 3 .steps s2 _ = _
                  obtain ⟨fs, hfs⟩ : ∃ fs, s.length = fs + 1 := ⟨s.length - 1, by omega⟩
                  rw [hfs, runR, if_pos (by simp [moreR])]
                  dsimp only
                  cases hc3 : cutB 10 s2 with
                  | none => rfl
                  | some q5 =>
                    obtain ⟨l3, s3⟩ := q5
                    have hl3 := len_cut hc3
                    dsimp only
                    cases hw3 : cutB 32 l3 with
                    | none => rw [oneR_none hw3]
                    | some q6 =>
                      obtain ⟨w3, u3⟩ := q6
                      rw [oneR_cut hw3]
                      dsimp only
                      by_cases h4 : w3 = [109, 97, 100, 101]
                      · rw [if_pos h4]
                        have ho : oneW (R := R) w3 u3 = (numB u3).map .made := by unfold oneW; rw [h4]; rfl
                        rw [ho]
                        cases hn3 : numB u3 with
                        | none => rfl
                        | some m =>
                          show runR R fs (3 + 1) .made s3 _ = restRd R (s3.length + 1) 3 s3 _
                          exact rest_eq _ _ 3 .made s3 _ (by omega) (by omega) (.inl ⟨.inl rfl, rfl⟩)
                      · rw [if_neg h4]
                        cases ho : oneW (R := R) w3 u3 with
                        | none => rfl
                        | some x =>
                          have hk := oneW_kind ho
                          cases x with
                          | made _ => exact absurd hk h4
                          | _ => rfl
              · rw [if_neg h3]
                cases ho : oneW (R := R) w2 u2 with
                | none => rfl
                | some x =>
                  have hk := oneW_kind ho
                  cases x with
                  | steps _ => exact absurd hk h3
                  | _ => rfl
      rw [if_neg h2]
      cases ho : oneW (R := R) w u with
      | none => rfl
      | some x =>
        have hk := oneW_kind ho
        cases x with
        | error _ _ => exact absurd hk h1
        | ends _ _ => exact absurd hk h2
        | _ => rfl
end
end Go.Proofs.YtmihpkdhfomcgaaGreatDoor.Ou
