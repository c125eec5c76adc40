/- The lexer of package token as plain functions on lists of bytes, and the law that a token's own text is the token again. No program in sight. -/
import Derived.Test.YtnodfbjbcmkkhaaDoorVq
import Derived.Lib.IndexMore
set_option maxRecDepth 20000
namespace Go.Proofs.YtnodfbjbcmkkhaaDoor
open Go.RowKit Go.Vcg

/-! classes of bytes -/
def ltrI (c : Int) : Bool := decide (97 ≤ c ∧ c ≤ 122) || decide (65 ≤ c ∧ c ≤ 90) || decide (c = 95) || decide (c = 36)
def digI (c : Int) : Bool := decide (48 ≤ c ∧ c ≤ 57)
def endI (c : Int) : Bool := decide (c = 10) || decide (c = 13)
def wsI (c : Int) : Bool := decide (c = 32) || decide (c = 9) || endI c
def nendI (c : Int) : Bool := !endI c
def idI (c : Int) : Bool := ltrI c || digI c
def hexI (c : Int) : Int := if 48 ≤ c ∧ c ≤ 57 then c - 48 else if 97 ≤ c ∧ c ≤ 102 then c - 97 + 10 else if 65 ≤ c ∧ c ≤ 70 then c - 65 + 10 else -1
abbrev on8 (p : Int → Bool) (b : UInt8) : Bool := p (b.toNat : Int)

/-- how many bytes at the head satisfy 'p' -/
def headN (p : Int → Bool) : List UInt8 → Nat
  | [] => 0
  | b :: r => if on8 p b then headN p r + 1 else 0
abbrev shift1 {α : Type} (x : Nat × α) : Nat × α := (x.1 + 1, x.2)
/-- blanks, line terminators and comments: how many bytes, whether a line terminator is among them, whether all comments end; the first 'k' bytes are passed over -/
def gapK : Nat → Bool → List UInt8 → Nat × Bool × Bool
  | _, ln, [] => (0, ln, true)
  | k + 1, ln, _ :: r => shift1 (gapK k ln r)
  | 0, ln, b :: r =>
    if on8 wsI b then shift1 (gapK 0 (ln || on8 endI b) r)
    else if b = 47 ∧ r.head? = some 47 then shift1 (gapK (headN nendI r) ln r)
    else if b = 47 ∧ r.head? = some 42 then
      if Lib.index (r.drop 1) [42, 47] < 0 then (0, ln, false)
      else shift1 (gapK ((Lib.index (r.drop 1) [42, 47]).toNat + 3) (ln || ((r.drop 1).take (Lib.index (r.drop 1) [42, 47]).toNat).any (on8 endI)) r)
    else (0, ln, true)

structure T1 where
  k : Int
  len : Nat
  n : Int
  s : List UInt8
  op : Bool
def maxIntI : Int := 9007199254740992
def digitsL (base : Int) : List UInt8 → Int → Bool → Int × Nat × Bool
  | [], n, ok => (n, 0, ok)
  | b :: r, n, ok =>
    if hexI b.toNat < 0 ∨ hexI b.toNat ≥ base then (n, 0, ok)
    else if n * base + hexI b.toNat > maxIntI then ((digitsL base r 0 false).1, (digitsL base r 0 false).2.1 + 1, (digitsL base r 0 false).2.2)
    else ((digitsL base r (n * base + hexI b.toNat) ok).1, (digitsL base r (n * base + hexI b.toNat) ok).2.1 + 1, (digitsL base r (n * base + hexI b.toNat) ok).2.2)
/-- a number: its value, its length -/
def nbody (xs : List UInt8) : Int × Nat × Bool :=
  if [48, 120].isPrefixOf xs then ((digitsL 16 (xs.drop 2) 0 true).1, (digitsL 16 (xs.drop 2) 0 true).2.1 + 2, (digitsL 16 (xs.drop 2) 0 true).2.2 && decide (0 < (digitsL 16 (xs.drop 2) 0 true).2.1))
  else digitsL 10 xs 0 true
def idAt (xs : List UInt8) (i : Nat) : Bool := match xs[i]? with
  | some c => on8 idI c
  | none => false
def numL (xs : List UInt8) : Except Int (Int × Nat) :=
  if xs.head? = some 48 ∧ 1 < (digitsL 10 xs 0 true).2.1 then .error 22
  else if (nbody xs).2.2 = false ∨ idAt xs (nbody xs).2.1 = true then .error 22
  else .ok ((nbody xs).1, (nbody xs).2.1)
def escFrom : List UInt8 := [110, 116, 114, 48, 92, 39, 34, 96, 36]
def escTo : List UInt8 := [10, 9, 13, 0, 92, 39, 34, 96, 36]
/-- an escape sequence behind its backslash: the byte, its length -/
def escH : List UInt8 → Except Int (UInt8 × Nat)
  | [] => .error 8
  | [g] => if hexI g.toNat < 0 then .error 21 else .error 8
  | g :: h :: _ => if hexI g.toNat < 0 then .error 21 else if hexI h.toNat < 0 then .error 21 else .ok (UInt8.ofNat ((hexI g.toNat) * 16 + hexI h.toNat).toNat, 3)
def escL : List UInt8 → Except Int (UInt8 × Nat)
  | [] => .error 8
  | c :: r =>
    if 0 ≤ Lib.indexByte escFrom c then .ok (escTo.getD (Lib.indexByte escFrom c).toNat 0, 1)
    else if c ≠ 120 then .error 21 else escH r
def consE (c : UInt8) (x : Except Int (List UInt8 × Nat)) : Except Int (List UInt8 × Nat) := match x with
  | .ok (o, n) => .ok (c :: o, n + 1)
  | .error e => .error e
def skipE (x : Except Int (List UInt8 × Nat)) : Except Int (List UInt8 × Nat) := match x with
  | .ok (o, n) => .ok (o, n + 1)
  | .error e => .error e
/-- a string literal behind its opening quote: its bytes, its length -/
def qK (q : UInt8) : Nat → List UInt8 → Except Int (List UInt8 × Nat)
  | _, [] => .error 8
  | k + 1, _ :: r => skipE (qK q k r)
  | 0, b :: r =>
    if b = q then .ok ([], 1) else if on8 endI b then .error 22 else if b ≠ 92 then consE b (qK q 0 r)
    else match escL r with
      | .error e => .error e
      | .ok (c, n) => consE c (qK q n r)
/-- a piece of a template behind its first byte: its bytes, its length without the '{' -/
def pK : Nat → List UInt8 → Except Int (List UInt8 × Nat)
  | _, [] => .error 8
  | k + 1, _ :: r => skipE (pK k r)
  | 0, b :: r =>
    if (b = 36 ∧ r.head? = some 123) ∨ b = 96 then .ok ([], 1) else if b ≠ 92 then consE b (pK 0 r)
    else match escL r with
      | .error e => .error e
      | .ok (c, n) => consE c (pK n r)
def wordsB : List UInt8 := [32, 98, 114, 101, 97, 107, 32, 99, 97, 115, 101, 32, 99, 97, 116, 99, 104, 32, 99, 111, 110, 115, 116, 32, 99, 111, 110, 116, 105, 110, 117, 101, 32, 100, 101, 98, 117, 103, 103, 101, 114, 32, 100, 101, 102, 97, 117, 108, 116, 32, 100, 101, 108, 101, 116, 101, 32, 100, 111, 32, 101, 108, 115, 101, 32, 102, 97, 108, 115, 101, 32, 102, 105, 110, 97, 108, 108, 121, 32, 102, 111, 114, 32, 102, 117, 110, 99, 116, 105, 111, 110, 32, 105, 102, 32, 105, 110, 32, 105, 110, 115, 116, 97, 110, 99, 101, 111, 102, 32, 110, 101, 119, 32, 110, 117, 108, 108, 32, 114, 101, 116, 117, 114, 110, 32, 115, 119, 105, 116, 99, 104, 32, 116, 104, 105, 115, 32, 116, 104, 114, 111, 119, 32, 116, 114, 117, 101, 32, 116, 114, 121, 32, 116, 121, 112, 101, 111, 102, 32, 118, 97, 114, 32, 118, 111, 105, 100, 32, 119, 104, 105, 108, 101, 32, 119, 105, 116, 104, 32, 99, 108, 97, 115, 115, 32, 101, 110, 117, 109, 32, 101, 120, 112, 111, 114, 116, 32, 101, 120, 116, 101, 110, 100, 115, 32, 105, 109, 112, 111, 114, 116, 32, 115, 117, 112, 101, 114, 32]
def sign1B : List UInt8 := [32, 123, 32, 125, 32, 40, 32, 41, 32, 91, 32, 93, 32, 46, 32, 59, 32, 44, 32, 60, 32, 62, 32, 43, 32, 45, 32, 42, 32, 47, 32, 37, 32, 38, 32, 124, 32, 94, 32, 33, 32, 126, 32, 63, 32, 58, 32, 61, 32]
def sign2B : List UInt8 := [32, 60, 61, 32, 62, 61, 32, 61, 61, 32, 33, 61, 32, 43, 43, 32, 45, 45, 32, 38, 38, 32, 124, 124, 32, 63, 63, 32, 63, 46, 32, 43, 61, 32, 45, 61, 32, 42, 61, 32, 47, 61, 32, 37, 61, 32, 38, 61, 32, 124, 61, 32, 94, 61, 32, 60, 60, 32, 62, 62, 32, 61, 62, 32]
def sign3B : List UInt8 := [32, 46, 46, 46, 32, 61, 61, 61, 32, 33, 61, 61, 32, 60, 60, 61, 32, 62, 62, 61, 32, 38, 38, 61, 32, 124, 124, 61, 32, 63, 63, 61, 32]
def signTab : Nat → List UInt8
  | 1 => sign1B
  | 2 => sign2B
  | 3 => sign3B
  | _ => []
def digAt (xs : List UInt8) (i : Nat) : Bool := match xs[i]? with
  | some c => on8 digI c
  | none => false
def signAt (xs : List UInt8) (n : Nat) : Bool :=
  decide (n ≤ xs.length) && decide (Lib.indexByte (xs.take n) 32 < 0) && !(decide (xs.take n = [63, 46]) && digAt xs n) && Lib.contains (signTab n) ([32] ++ xs.take n ++ [32])
def signL (xs : List UInt8) : Nat := if signAt xs 3 then 3 else if signAt xs 2 then 2 else if signAt xs 1 then 1 else 0
def oneL (xs : List UInt8) (tail : Bool) : Except Int T1 := match xs with
  | [] => .ok ⟨0, 0, 0, [], false⟩
  | c :: r =>
    if on8 ltrI c then .ok ⟨if Lib.contains wordsB ([32] ++ (c :: r).take (headN idI (c :: r)) ++ [32]) then 2 else 1, headN idI (c :: r), 0, (c :: r).take (headN idI (c :: r)), false⟩
    else if on8 digI c then match numL (c :: r) with
      | .error e => .error e
      | .ok (n, m) => .ok ⟨3, m, n, [], false⟩
    else if c = 34 ∨ c = 39 then match qK c 0 r with
      | .error e => .error e
      | .ok (o, m) => .ok ⟨4, m + 1, 0, o, false⟩
    else if c = 96 ∨ (c = 125 ∧ tail = true) then match pK 0 r with
      | .error e => .error e
      | .ok (o, m) => .ok ⟨6, if r[m - 1]? = some 36 then m + 2 else m + 1, if c = 125 then 1 else 0, o, decide (r[m - 1]? = some 36)⟩
    else if signL (c :: r) = 0 then .error 20 else .ok ⟨5, signL (c :: r), 0, (c :: r).take (signL (c :: r)), false⟩
/-- no blank and no comment begins here -/
def stops (xs : List UInt8) : Prop := gapK 0 false xs = (0, false, true)

/-! a token's own text is the token again -/
theorem headN_le (p : Int → Bool) : ∀ xs : List UInt8, headN p xs ≤ xs.length
  | [] => by simp [headN]
  | b :: r => by
    unfold headN
    split
    · simp only [List.length_cons]; have := headN_le p r; omega
    · simp
theorem headN_take (p : Int → Bool) : ∀ (xs : List UInt8) (m : Nat), headN p xs ≤ m → headN p (xs.take m) = headN p xs
  | [], m, _ => by simp
  | b :: r, m, h => by
    cases m with
    | zero =>
      unfold headN at h ⊢
      split at h
      · omega
      · simp_all
    | succ m =>
      simp only [List.take_succ_cons]
      unfold headN at h ⊢
      split
      · rename_i hb
        rw [if_pos hb] at h
        rw [headN_take p r m (by omega)]
      · rfl
theorem isPrefixOf_take (p xs : List UInt8) {m : Nat} (h : p.length ≤ m) : p.isPrefixOf (xs.take m) = p.isPrefixOf xs := by
  induction p generalizing xs m with
  | nil => simp
  | cons a p ih =>
    cases m with
    | zero => simp at h
    | succ m =>
      cases xs with
      | nil => simp
      | cons b r =>
        simp only [List.take_succ_cons, List.isPrefixOf]
        rw [ih r (by simpa using h)]
theorem head_take {xs : List UInt8} {m : Nat} (h : 0 < m) : (xs.take m).head? = xs.head? := by
  cases m with
  | zero => omega
  | succ m => cases xs <;> simp
theorem digitsL_le (base : Int) : ∀ (xs : List UInt8) (n : Int) (ok : Bool), (digitsL base xs n ok).2.1 ≤ xs.length
  | [], n, ok => by simp [digitsL]
  | b :: r, n, ok => by
    unfold digitsL
    split
    · simp
    · split
      · have := digitsL_le base r 0 false; simp only [List.length_cons]; omega
      · have := digitsL_le base r (n * base + hexI b.toNat) ok; simp only [List.length_cons]; omega
theorem digitsL_take (base : Int) : ∀ (xs : List UInt8) (n : Int) (ok : Bool) (m : Nat), (digitsL base xs n ok).2.1 ≤ m → digitsL base (xs.take m) n ok = digitsL base xs n ok
  | [], n, ok, m, _ => by simp
  | b :: r, n, ok, m, h => by
    cases m with
    | zero =>
      unfold digitsL at h ⊢
      split at h
      · rename_i hb; simp [hb]
      · split at h <;> (simp only at h; omega)
    | succ m =>
      simp only [List.take_succ_cons]
      unfold digitsL at h ⊢
      split
      · rfl
      · rename_i hb
        rw [if_neg hb] at h
        split
        · rename_i hc
          rw [if_pos hc] at h
          rw [digitsL_take base r 0 false m (by simp only at h; omega)]
        · rename_i hc
          rw [if_neg hc] at h
          rw [digitsL_take base r _ ok m (by simp only at h; omega)]
theorem idAt_take (xs : List UInt8) (m : Nat) : idAt (xs.take m) m = false := by
  unfold idAt
  rw [List.getElem?_eq_none (by simp; omega)]
theorem nbody_le (xs : List UInt8) : (nbody xs).2.1 ≤ xs.length := by
  unfold nbody
  split
  · rename_i h
    have := digitsL_le 16 (xs.drop 2) 0 true
    simp only [List.length_drop] at this
    have : 2 ≤ xs.length := by
      have := (List.isPrefixOf_iff_prefix.1 h).length_le
      simpa using this
    simp only
    omega
  · exact digitsL_le 10 xs 0 true
theorem numL_take {xs : List UInt8} {n : Int} {m : Nat} (h : numL xs = .ok (n, m)) : m ≤ xs.length ∧ numL (xs.take m) = .ok (n, m) ∧ (xs.head?.any (on8 digI) = true → 0 < m) := by
  unfold numL at h
  split at h
  · cases h
  · rename_i h1
    split at h
    · cases h
    · rename_i h2
      simp only [Except.ok.injEq, Prod.mk.injEq] at h
      obtain ⟨hn, hm⟩ := h
      have hle := nbody_le xs
      rw [hm] at hle
      simp only [not_or, Bool.not_eq_false, Bool.not_eq_true] at h2
      obtain ⟨h2, h3⟩ := h2
      have hb : nbody (xs.take m) = nbody xs ∧ (digitsL 10 (xs.take m) 0 true).2.1 ≤ (digitsL 10 xs 0 true).2.1 ∧ (xs.head?.any (on8 digI) = true → 0 < m) := by
        unfold nbody at h2 hm ⊢
        by_cases hp : [48, 120].isPrefixOf xs = true
        · rw [if_pos hp] at h2 hm
          simp only [Bool.and_eq_true, decide_eq_true_eq] at h2
          simp only at hm
          have hp' : [48, 120].isPrefixOf (xs.take m) = true := by rw [isPrefixOf_take _ _ (by simp; omega)]; exact hp
          rw [if_pos hp', if_pos hp]
          have hd : (xs.take m).drop 2 = (xs.drop 2).take (m - 2) := by rw [List.drop_take]
          rw [hd, digitsL_take 16 _ 0 true (m - 2) (by omega)]
          refine ⟨rfl, ?_, fun _ => by omega⟩
          obtain ⟨r, hr⟩ := List.isPrefixOf_iff_prefix.1 hp
          subst hr
          obtain ⟨k, rfl⟩ : ∃ k, m = k + 2 := ⟨m - 2, by omega⟩
          simp [digitsL, hexI, maxIntI]
        · rw [if_neg hp] at h2 hm
          have hp' : ¬ [48, 120].isPrefixOf (xs.take m) = true := by
            intro hh
            apply hp
            rw [List.isPrefixOf_iff_prefix] at hh ⊢
            exact hh.trans (List.take_prefix _ _)
          rw [if_neg hp', if_neg hp, digitsL_take 10 xs 0 true m (by omega)]
          refine ⟨rfl, Nat.le_refl _, fun hd => ?_⟩
          cases xs with
          | nil => simp at hd
          | cons b r =>
            simp [on8, digI] at hd
            unfold digitsL at hm
            rw [if_neg (by unfold hexI; rw [if_pos (by omega)]; omega)] at hm
            split at hm <;> simp only at hm <;> omega
      refine ⟨hle, ?_, hb.2.2⟩
      unfold numL
      rw [hb.1]
      rw [if_neg (by
        rintro ⟨ha, hb'⟩
        have hpos : 0 < m := by
          rcases Nat.eq_zero_or_pos m with hz | hz
          · rw [hz] at ha; simp at ha
          · exact hz
        rw [head_take hpos] at ha
        exact h1 ⟨ha, by omega⟩)]
      rw [if_neg (by
        rintro (ha | ha)
        · rw [h2] at ha; cases ha
        · rw [hm, idAt_take] at ha; cases ha)]
      rw [hn, hm]
theorem escL_take {r : List UInt8} {c : UInt8} {n : Nat} (h : escL r = .ok (c, n)) : 0 < n ∧ n ≤ r.length ∧ ∀ m, n ≤ m → escL (r.take m) = .ok (c, n) := by
  cases r with
  | nil => simp [escL] at h
  | cons b r =>
    rw [escL] at h
    by_cases h1 : 0 ≤ Lib.indexByte escFrom b
    · rw [if_pos h1] at h
      simp only [Except.ok.injEq, Prod.mk.injEq] at h
      obtain ⟨hc, hn⟩ := h
      subst hn
      refine ⟨by omega, by simp, fun m hm => ?_⟩
      obtain ⟨k, rfl⟩ : ∃ k, m = k + 1 := ⟨m - 1, by omega⟩
      simp only [List.take_succ_cons]
      rw [escL, if_pos h1, hc]
    · rw [if_neg h1] at h
      by_cases h2 : b ≠ 120
      · rw [if_pos h2] at h; cases h
      · rw [if_neg h2] at h
        match r, h with
        | [], h => simp [escH] at h
        | [g], h => rw [escH] at h; split at h <;> cases h
        | g :: e :: r, h =>
          rw [escH] at h
          by_cases h3 : hexI g.toNat < 0
          · rw [if_pos h3] at h; cases h
          · rw [if_neg h3] at h
            by_cases h4 : hexI e.toNat < 0
            · rw [if_pos h4] at h; cases h
            · rw [if_neg h4] at h
              simp only [Except.ok.injEq, Prod.mk.injEq] at h
              obtain ⟨hc, hn⟩ := h
              subst hn
              refine ⟨by omega, by simp, fun m hm => ?_⟩
              obtain ⟨k, rfl⟩ : ∃ k, m = k + 3 := ⟨m - 3, by omega⟩
              simp only [List.take_succ_cons]
              rw [escL, if_neg h1, if_neg h2, escH, if_neg h3, if_neg h4, hc]
theorem qK_le {q : UInt8} : ∀ {xs : List UInt8} {k n : Nat} {o : List UInt8}, qK q k xs = .ok (o, n) → k + 1 ≤ n ∧ n ≤ xs.length
  | [], k, n, o, h => by simp [qK] at h
  | b :: r, k + 1, n, o, h => by
    unfold qK skipE at h
    split at h
    · rename_i o' n' hr
      cases h
      have := qK_le hr
      simp only [List.length_cons]; omega
    · cases h
  | b :: r, 0, n, o, h => by
    unfold qK at h
    split at h
    · cases h; simp
    · split at h
      · cases h
      · split at h
        · unfold consE at h
          split at h
          · rename_i o' n' hr
            cases h
            have := qK_le hr
            simp only [List.length_cons]; omega
          · cases h
        · split at h
          · cases h
          · unfold consE at h
            split at h
            · rename_i o' n' hr
              cases h
              have := qK_le hr
              simp only [List.length_cons]; omega
            · cases h
theorem qK_take {q : UInt8} : ∀ {xs : List UInt8} {k n : Nat} {o : List UInt8}, qK q k xs = .ok (o, n) → qK q k (xs.take n) = .ok (o, n)
  | [], k, n, o, h => by simp [qK] at h
  | b :: r, k + 1, n, o, h => by
    unfold qK skipE at h
    split at h
    · rename_i o' n' hr
      cases h
      simp only [List.take_succ_cons]
      unfold qK skipE
      rw [qK_take hr]
    · cases h
  | b :: r, 0, n, o, h => by
    unfold qK at h
    split at h
    · rename_i h1
      cases h
      simp [qK, h1]
    · rename_i h1
      split at h
      · cases h
      · rename_i h2
        split at h
        · rename_i h3
          unfold consE at h
          split at h
          · rename_i o' n' hr
            cases h
            simp only [List.take_succ_cons]
            unfold qK consE
            rw [if_neg h1, if_neg h2, if_pos h3, qK_take hr]
          · cases h
        · rename_i h3
          split at h
          · cases h
          · rename_i c m hc
            unfold consE at h
            split at h
            · rename_i o' n' hr
              cases h
              simp only [List.take_succ_cons]
              have hle := qK_le hr
              unfold qK consE
              rw [if_neg h1, if_neg h2, if_neg h3, (escL_take hc).2.2 n' (by omega)]
              simp only
              rw [qK_take hr]
            · cases h
theorem pK_le : ∀ {xs : List UInt8} {k n : Nat} {o : List UInt8}, pK k xs = .ok (o, n) → k + 1 ≤ n ∧ n ≤ xs.length ∧ (xs[n - 1]? = some 96 ∨ (xs[n - 1]? = some 36 ∧ xs[n]? = some 123))
  | [], k, n, o, h => by simp [pK] at h
  | b :: r, k + 1, n, o, h => by
    unfold pK skipE at h
    split at h
    · rename_i o' n' hr
      cases h
      obtain ⟨h1, h2, h3⟩ := pK_le hr
      refine ⟨by omega, by simp; omega, ?_⟩
      obtain ⟨j, rfl⟩ : ∃ j, n' = j + 1 := ⟨n' - 1, by omega⟩
      simpa using h3
    · cases h
  | b :: r, 0, n, o, h => by
    unfold pK at h
    split at h
    · rename_i hb
      cases h
      refine ⟨by omega, by simp, ?_⟩
      rcases hb with ⟨rfl, hb⟩ | rfl
      · right
        refine ⟨by simp, ?_⟩
        cases r with
        | nil => simp at hb
        | cons x y => simpa using hb
      · left; simp
    · split at h
      · unfold consE at h
        split at h
        · rename_i o' n' hr
          cases h
          obtain ⟨h1, h2, h3⟩ := pK_le hr
          refine ⟨by omega, by simp; omega, ?_⟩
          obtain ⟨j, rfl⟩ : ∃ j, n' = j + 1 := ⟨n' - 1, by omega⟩
          simpa using h3
        · cases h
      · split at h
        · cases h
        · unfold consE at h
          split at h
          · rename_i o' n' hr
            cases h
            obtain ⟨h1, h2, h3⟩ := pK_le hr
            refine ⟨by omega, by simp; omega, ?_⟩
            obtain ⟨j, rfl⟩ : ∃ j, n' = j + 1 := ⟨n' - 1, by omega⟩
            simpa using h3
          · cases h
theorem pK_take : ∀ {xs : List UInt8} {k n m : Nat} {o : List UInt8}, pK k xs = .ok (o, n) → n ≤ m → (xs[n - 1]? = some 36 → n < m) → pK k (xs.take m) = .ok (o, n)
  | [], k, n, m, o, h, _, _ => by simp [pK] at h
  | b :: r, k + 1, n, m, o, h, hm, hx => by
    unfold pK skipE at h
    split at h
    · rename_i o' n' hr
      cases h
      obtain ⟨h1, h2, h3⟩ := pK_le hr
      obtain ⟨j, rfl⟩ : ∃ j, m = j + 1 := ⟨m - 1, by omega⟩
      obtain ⟨i, rfl⟩ : ∃ i, n' = i + 1 := ⟨n' - 1, by omega⟩
      simp only [List.take_succ_cons]
      unfold pK skipE
      rw [pK_take hr (by omega) (fun hh => by have := hx (by simpa using hh); omega)]
    · cases h
  | b :: r, 0, n, m, o, h, hm, hx => by
    unfold pK at h
    split at h
    · rename_i hb
      cases h
      obtain ⟨j, rfl⟩ : ∃ j, m = j + 1 := ⟨m - 1, by omega⟩
      simp only [List.take_succ_cons]
      unfold pK
      rw [if_pos]
      rcases hb with ⟨rfl, hb⟩ | hb
      · left
        have := hx (by simp)
        rw [head_take (by omega)]
        exact ⟨rfl, hb⟩
      · right; exact hb
    · rename_i h1
      have n1 : ∀ j, ¬ ((b = 36 ∧ (r.take j).head? = some 123) ∨ b = 96) := fun j hh => by
        apply h1
        rcases hh with ⟨hb, hh⟩ | hh
        · left
          refine ⟨hb, ?_⟩
          cases j with
          | zero => simp at hh
          | succ j => rwa [head_take (by omega)] at hh
        · right; exact hh
      split at h
      · rename_i h3
        unfold consE at h
        split at h
        · rename_i o' n' hr
          cases h
          obtain ⟨g1, g2, g3⟩ := pK_le hr
          obtain ⟨j, rfl⟩ : ∃ j, m = j + 1 := ⟨m - 1, by omega⟩
          obtain ⟨i, rfl⟩ : ∃ i, n' = i + 1 := ⟨n' - 1, by omega⟩
          simp only [List.take_succ_cons]
          unfold pK consE
          rw [if_neg (n1 j), if_pos h3, pK_take hr (by omega) (fun hh => by have := hx (by simpa using hh); omega)]
        · cases h
      · rename_i h3
        split at h
        · cases h
        · rename_i c e hc
          unfold consE at h
          split at h
          · rename_i o' n' hr
            cases h
            obtain ⟨g1, g2, g3⟩ := pK_le hr
            obtain ⟨j, rfl⟩ : ∃ j, m = j + 1 := ⟨m - 1, by omega⟩
            obtain ⟨i, rfl⟩ : ∃ i, n' = i + 1 := ⟨n' - 1, by omega⟩
            simp only [List.take_succ_cons]
            unfold pK consE
            rw [if_neg (n1 j), if_neg h3, (escL_take hc).2.2 j (by omega)]
            simp only
            rw [pK_take hr (by omega) (fun hh => by have := hx (by simpa using hh); omega)]
          · cases h
theorem signAt_le {xs : List UInt8} {n : Nat} (h : signAt xs n = true) : n ≤ xs.length := by
  unfold signAt at h
  simp only [Bool.and_eq_true, decide_eq_true_eq] at h
  exact h.1.1.1
theorem digAt_take (xs : List UInt8) (m : Nat) : digAt (xs.take m) m = false := by
  unfold digAt
  rw [List.getElem?_eq_none (by simp; omega)]
theorem signAt_take {xs : List UInt8} {n : Nat} (h : signAt xs n = true) : signAt (xs.take n) n = true := by
  have hle := signAt_le h
  unfold signAt at h ⊢
  simp only [Bool.and_eq_true, decide_eq_true_eq] at h
  rw [List.take_take, Nat.min_self, digAt_take]
  simp only [Bool.and_false, Bool.not_false, Bool.and_true, Bool.and_eq_true, decide_eq_true_eq]
  exact ⟨⟨by simp; omega, h.1.1.2⟩, h.2⟩
theorem signAt_short {xs : List UInt8} {n m : Nat} (h : m < n) : signAt (xs.take m) n = false := by
  unfold signAt
  have : decide (n ≤ (xs.take m).length) = false := by simp; omega
  rw [this]; simp
theorem signL_take {xs : List UInt8} (h : signL xs ≠ 0) : signL xs ≤ xs.length ∧ signL (xs.take (signL xs)) = signL xs := by
  cases h3 : signAt xs 3 with
  | true =>
    have e : signL xs = 3 := by simp [signL, h3]
    rw [e]
    exact ⟨signAt_le h3, by simp [signL, signAt_take h3]⟩
  | false =>
    cases h2 : signAt xs 2 with
    | true =>
      have e : signL xs = 2 := by simp [signL, h3, h2]
      rw [e]
      exact ⟨signAt_le h2, by simp [signL, signAt_take h2, signAt_short (xs := xs) (show 2 < 3 by omega)]⟩
    | false =>
      cases h1 : signAt xs 1 with
      | true =>
        have e : signL xs = 1 := by simp [signL, h3, h2, h1]
        rw [e]
        exact ⟨signAt_le h1, by simp [signL, signAt_take h1, signAt_short (xs := xs) (show 1 < 3 by omega), signAt_short (xs := xs) (show 1 < 2 by omega)]⟩
      | false => exact absurd (by simp [signL, h3, h2, h1]) h
theorem oneL_le {xs : List UInt8} {tail : Bool} {t : T1} (h : oneL xs tail = .ok t) : t.len ≤ xs.length ∧ (xs ≠ [] → 0 < t.len ∧ t.k ≠ 0) ∧ (xs = [] → t.k = 0) := by
  unfold oneL at h
  split at h
  · cases h; simp
  · rename_i c r
    split at h
    · rename_i hl
      cases h
      refine ⟨headN_le _ _, fun _ => ⟨?_, ?_⟩, by simp⟩
      · unfold headN; rw [if_pos (by simp [idI, hl])]; omega
      · simp only; split <;> omega
    · split at h
      · rename_i hd
        split at h
        · cases h
        · rename_i n m hn
          cases h
          obtain ⟨a, _, b⟩ := numL_take hn
          exact ⟨a, fun _ => ⟨b (by simpa using hd), by simp⟩, by simp⟩
      · split at h
        · split at h
          · cases h
          · rename_i o m hq
            cases h
            have := qK_le hq
            exact ⟨by simp only [List.length_cons]; omega, fun _ => ⟨by simp, by simp⟩, by simp⟩
        · split at h
          · split at h
            · cases h
            · rename_i o m hq
              cases h
              obtain ⟨a, b, e⟩ := pK_le hq
              refine ⟨?_, fun _ => ⟨by simp only; split <;> omega, by simp⟩, by simp⟩
              simp only [List.length_cons]
              split
              · rename_i hx
                rw [hx] at e
                have := (List.getElem?_eq_some_iff.1 (e.resolve_left (by simp)).2).1
                omega
              · omega
          · split at h
            · cases h
            · rename_i hs
              cases h
              exact ⟨(signL_take hs).1, fun _ => ⟨by simp only; omega, by simp⟩, by simp⟩
theorem oneL_take {xs : List UInt8} {tail : Bool} {t : T1} (h : oneL xs tail = .ok t) : oneL (xs.take t.len) (decide (t.k = 6) && decide (t.n = 1)) = .ok t := by
  have hle := oneL_le h
  unfold oneL at h
  split at h
  · cases h; simp [oneL]
  · rename_i c r
    have hpos := (hle.2.1 (by simp)).1
    obtain ⟨j, hj⟩ : ∃ j, t.len = j + 1 := ⟨t.len - 1, by omega⟩
    have htk : (c :: r).take t.len = c :: r.take j := by rw [hj]; rfl
    rw [htk]
    unfold oneL
    simp only
    split at h
    · rename_i hl
      rw [if_pos hl, ← htk]
      cases h
      simp only at hj ⊢
      rw [headN_take _ _ _ (Nat.le_refl _), List.take_take, Nat.min_self]
    · rename_i hl
      rw [if_neg hl]
      split at h
      · rename_i hd
        rw [if_pos hd, ← htk]
        split at h
        · cases h
        · rename_i n m hn
          cases h
          simp only at hj ⊢
          rw [(numL_take hn).2.1]
      · rename_i hd
        rw [if_neg hd]
        split at h
        · rename_i hq
          rw [if_pos hq]
          split at h
          · cases h
          · rename_i o m hn
            cases h
            simp only [Nat.add_right_cancel_iff] at hj ⊢
            subst hj
            rw [qK_take hn]
        · rename_i hq
          rw [if_neg hq]
          split at h
          · rename_i hp
            split at h
            · cases h
            · rename_i o m hn
              cases h
              rw [if_pos (by
                rcases hp with hp | ⟨hp, _⟩
                · left; exact hp
                · right; simp [hp])]
              simp only at hj ⊢
              obtain ⟨g1, g2, g3⟩ := pK_le hn
              rw [pK_take hn (by split at hj <;> omega) (fun hx => by rw [if_pos hx] at hj; omega)]
              simp only
              have : (r.take j)[m - 1]? = r[m - 1]? := by
                rw [List.getElem?_take, if_pos (by split at hj <;> omega)]
              rw [this]
          · rename_i hp
            split at h
            · cases h
            · rename_i hs
              cases h
              rw [if_neg (by simp; exact fun e => hp (Or.inl e)), ← htk]
              simp only
              rw [(signL_take hs).2, if_neg hs, List.take_take, Nat.min_self]
theorem stops_take {xs : List UInt8} (h : stops xs) (m : Nat) : stops (xs.take m) := by
  unfold stops at h ⊢
  cases xs with
  | nil => simpa using h
  | cons b r =>
    cases m with
    | zero => simp [gapK]
    | succ m =>
      simp only [List.take_succ_cons]
      unfold gapK at h ⊢
      split at h
      · exfalso; simp [shift1] at h
      · rename_i h1
        split at h
        · exfalso; simp [shift1] at h
        · rename_i h2
          split at h
          · split at h
            · exfalso; simp at h
            · exfalso; simp [shift1] at h
          · rename_i h3
            rw [if_neg h1]
            have hd : ∀ c, (r.take m).head? = some c → r.head? = some c := fun c hc => by
              cases m with
              | zero => simp at hc
              | succ m => rwa [head_take (by omega)] at hc
            rw [if_neg (fun e => h2 ⟨e.1, hd _ e.2⟩), if_neg (fun e => h3 ⟨e.1, hd _ e.2⟩)]
end Go.Proofs.YtnodfbjbcmkkhaaDoor
