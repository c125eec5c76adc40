/- Numbers of package num: what In, Of, digit and count compute, and their contracts. -/
import Derived.Lib.SlTrimSet
import Derived.Test.YtoclmkdfcafhfaaGreatDoorQaf
import Derived.Test.YtoclmkdfcafhfaaGreatDoorShelf
import Derived.Lib.AppendIntMem
import Derived.Lib.LaidU8
import Derived.Lib.LaidTab
import Derived.Lib.OthersKept
import Derived.Shelf.Strings.Builder1
import Derived.Lib.AppendStr
set_option maxRecDepth 20000
set_option maxHeartbeats 2000000
namespace Go.Proofs.YtoclmkdfcafhfaaGreatDoor
section
open Go.RowKit Go.Vcg
structure V where
  k : Int
  n : Int
  s : ByteArray
def noS : ByteArray := ⟨#[]⟩
abbrev encV (v : V) : List Value := [.int .i64 v.k, .int .i64 v.n, .string v.s]
def nanV : V := ⟨4, 0, noS⟩
def inF (n : Int) : Bool := decide (-9007199254740992 ≤ n) && decide (n ≤ 9007199254740992)
def ofF (n : Int) : V := if inF n then ⟨3, n, noS⟩ else nanV
def digitF (c : Int) : Int := if 48 ≤ c ∧ c ≤ 57 then c - 48 else if 97 ≤ c ∧ c ≤ 102 then c - 97 + 10 else if 65 ≤ c ∧ c ≤ 70 then c - 65 + 10 else 99
def countF (base : Int) : List UInt8 → Int → Option Int
  | [], n => some n
  | b :: r, n => if digitF b.toNat ≥ base then none else if n * base + digitF b.toNat > 9007199254740992 then none else countF base r (n * base + digitF b.toNat)
def count2 (base : Int) (l : List UInt8) : Int × Bool := match countF base l 0 with
  | some n => (n, decide (l ≠ []))
  | none => (0, false)
theorem digitF_lo {c : Int} (h : 0 ≤ c) : 0 ≤ digitF c := by
  unfold digitF
  split
  · omega
  · split
    · omega
    · split <;> omega
theorem digitF_hi {c : Int} : digitF c ≤ 99 := by
  unfold digitF
  split
  · omega
  · split
    · omega
    · split <;> omega
theorem drop_cons {l : List UInt8} {i : Nat} {b : UInt8} (h : l[i]? = some b) : l.drop i = b :: l.drop (i + 1) := by
  obtain ⟨hi, rfl⟩ := List.getElem?_eq_some_iff.1 h
  exact List.drop_eq_getElem_cons hi
theorem bl_at {s : ByteArray} {i : Nat} (h : i < s.size) : ∃ b, (bl s)[i]? = some b ∧ bAt s i = b.toNat := by
  have : i < (bl s).length := by rw [bl_len]; exact h
  exact ⟨(bl s)[i], List.getElem?_eq_getElem this, bAt_get (List.getElem?_eq_getElem this)⟩
theorem ne_bl (s : ByteArray) : decide (s ≠ ⟨#[]⟩) = decide (bl s ≠ []) := by
  congr 1
  simp only [ne_eq, bl_empty_iff]
attribute [local irreducible] G GC GQ GA GAop Calls IntKind.wrap Int.decLt Int.decLe
theorem in_spec (n : Int) (w : World) (μ : Mem) (hμ : MOk μ w) :
    Calls Tryz.prog 105 #[.int .i64 n] w fun e w' => e = .returned (.bool (inF n)) ∧ Below w.heap.size w w' := by
  refine call_intro Tryz.func105 rfl Tryz.ntmps105 (by simp) hμ ?_
  repeat' (first | refine KK ?_ | (refine KB ?_ ?_ <;> intro hp) | refine KG ?_ | fail)
  all_goals refine ret_s rfl rfl ?_
  all_goals unfold inF
  all_goals first | (simp_all; done) | (simp_all; omega)
theorem none_spec (w : World) (μ : Mem) (hμ : MOk μ w) :
    Calls Tryz.prog 89 #[] w fun e w' => e = .returned (.agg (encV nanV).toArray) ∧ Below w.heap.size w w' := by
  refine call_intro (args := []) Tryz.func89 rfl Tryz.ntmps89 (by simp) hμ ?_
  repeat' (first | refine KK ?_ | refine NB fun b => ?_ | (refine KB ?_ ?_ <;> intro hp) | refine KG ?_ | fail)
  exact ret_v1 rfl (RG 0 rfl rfl rfl rfl rfl) rfl
theorem of_spec (n : Int) (w : World) (μ : Mem) (hμ : MOk μ w) :
    Calls Tryz.prog 73 #[.int .i64 n] w fun e w' => e = .returned (.agg (encV (ofF n)).toArray) ∧ Below w.heap.size w w' := by
  refine call_intro Tryz.func73 rfl Tryz.ntmps73 (by simp) hμ ?_
  unfold ofF
  repeat' (first | refine KO ?_ | ((with_reducible apply F1 105); exact rfl; exact EN; exact fun w μc hw hse => in_spec n w μc hw) | ((with_reducible apply F1 89); exact rfl; exact EN; exact fun w μc hw hse => none_spec w μc hw) | refine KI ?_ | refine NB fun b => ?_ | (refine KB ?_ ?_ <;> intro hp) | refine KG ?_ | fail)
  · rw [if_pos hp]
    exact ret_v1 rfl (RG 0 rfl rfl rfl rfl rfl) rfl
  · rw [if_neg (by simp [hp])]
    exact ret_v1 rfl (RG 0 rfl rfl rfl rfl rfl) rfl
theorem digit_spec (c : Int) (hc : 0 ≤ c ∧ c ≤ 255) (w : World) (μ : Mem) (hμ : MOk μ w) :
    Calls Tryz.prog 125 #[.int .u8 c] w fun e w' => e = .returned (.int .i64 (digitF c)) ∧ Below w.heap.size w w' := by
  refine call_intro Tryz.func125 rfl Tryz.ntmps125 (by simp) hμ ?_
  repeat' (first | refine KK ?_ | (refine KB ?_ ?_ <;> intro hp) | refine KG ?_ | fail)
  all_goals refine ret_s rfl rfl ?_
  all_goals congr 1
  all_goals unfold digitF
  all_goals (repeat' split) <;> omega
theorem numCount_spec (s : ByteArray) (base : Int) (hb : base = 10 ∨ base = 16) (hs : s.size ≤ 9223372036854775807) (w : World) (μ : Mem) (hμ : MOk μ w) :
    Calls Tryz.prog 88 #[.string s, .int .i64 base] w fun e w' => e = .returned (.tuple #[.int .i64 (count2 base (bl s)).1, .bool (count2 base (bl s)).2]) ∧ Below w.heap.size w w' := by
  refine call_intro Tryz.func88 rfl Tryz.ntmps88 (by simp) hμ ?_
  repeat' (first | refine KK ?_ | (refine KB ?_ ?_ <;> intro hp) | refine KG ?_ | fail)
  refine gc_loop (ι := Nat × Int) (fun i => i.1 ≤ s.size ∧ 0 ≤ i.2 ∧ i.2 ≤ 9007199254740992 ∧ countF base (bl s) 0 = countF base ((bl s).drop i.1) i.2) (fun i => s.size - i.1) (fun _ => μ) (fun i => [(11, .int .i64 i.1), (10, .int .i64 s.size), (6, .int .i64 i.2), (1, .int .i64 base), (0, .string s)]) (fun _ => []) (0, 0) ⟨by simp, by simp, by simp, by simp⟩ (fun a w hs => hs.sub PU (by repeat first | exact List.Sublist.refl _ | exact List.nil_sublist _ | refine List.Sublist.cons _ ?_)) ?_
  rintro ⟨i, n⟩ ⟨hi, hn0, hn1, hc⟩
  dsimp only at hi hn0 hn1 hc ⊢
  by_cases hlt : i < s.size
  · obtain ⟨b, hb1, hb2⟩ := bl_at hlt
    have h1 := bAt_lo s i
    have h2 := bAt_hi s i
    have h3 := digitF_lo h1
    have h4 := digitF_hi (c := bAt s i)
    rw [drop_cons hb1, countF, ← hb2] at hc
    have hk : 0 ≤ n * base ∧ n * base ≤ 9223372036854775707 := by rcases hb with rfl | rfl <;> omega
    repeat' (first | refine KO ?_ | ((with_reducible apply C1); exact rfl; exact EN; exact fun w μc hw hse => digit_spec _ (by omega) w μc hw) | refine KI ?_ | (refine KB ?_ ?_ <;> intro hp) | refine KG ?_ | fail)
    · rw [if_pos (by omega)] at hc
      exact ret_s2 rfl rfl rfl (by simp [count2, hc]) (by simp [count2, hc])
    · rw [if_neg (by omega), if_pos (by omega)] at hc
      exact ret_s2 rfl rfl rfl (by simp [count2, hc]) (by simp [count2, hc])
    · rw [if_neg (by omega), if_neg (by omega)] at hc
      exact gq_back (i + 1, n * base + digitF (bAt s i)) ⟨by dsimp only; omega, by dsimp only; omega, by dsimp only; omega, hc⟩ (by dsimp only; omega) rfl PU (by repeat first | exact List.Sublist.refl _ | exact List.nil_sublist _ | refine List.Sublist.cons _ ?_)
  · have hi' : i = s.size := by omega
    have hd : (bl s).drop i = [] := List.drop_of_length_le (by rw [bl_len]; omega)
    rw [hd, countF] at hc
    repeat' (first | refine KK ?_ | (refine KB ?_ ?_ <;> intro hp) | refine KG ?_ | fail)
    refine ret_s2 rfl rfl rfl ?_ ?_
    · simp [count2, hc]
    · rw [ne_bl]; simp [count2, hc]
theorem hasPre_spec (s p : ByteArray) (hs : s.size ≤ 9223372036854775807) (hp' : p.size ≤ 9223372036854775807) (w : World) (μ : Mem) (hμ : MOk μ w) :
    Calls Tryz.prog 84 #[.string s, .string p] w fun e w' => e = .returned (.bool (decide ((bl s).take p.size = bl p))) ∧ Below w.heap.size w w' := by
  refine call_intro Tryz.func84 rfl Tryz.ntmps84 (by simp) hμ ?_
  repeat' (first | refine KO ?_ | (refine KV (b := by first | ((with_reducible apply v_str_hi p.size); exact rfl; exact rfl; exact rfl; exact rfl; omega)) (c := ?_)) | refine KI ?_ | (refine KB ?_ ?_ <;> intro hp) | refine KG ?_ | fail)
  · refine ret_s rfl rfl ?_
    congr 2
    apply propext
    constructor
    · intro h
      have := congrArg bl h
      rw [bl_extract] at this
      simpa using this
    · intro h
      apply bl_inj
      rw [bl_extract]
      simpa using h
  · refine ret_s rfl rfl ?_
    have : ¬ (bl s).take p.size = bl p := fun h => by
      have := congrArg List.length h
      rw [List.length_take, bl_len, bl_len] at this
      omega
    simp [this]
theorem hasPrefix_spec (s p : ByteArray) (hs : s.size ≤ 9223372036854775807) (hp' : p.size ≤ 9223372036854775807) (w : World) (μ : Mem) (hμ : MOk μ w) :
    Calls Tryz.prog 87 #[.string s, .string p] w fun e w' => e = .returned (.bool (decide ((bl s).take p.size = bl p))) ∧ Below w.heap.size w w' := by
  refine call_intro Tryz.func87 rfl Tryz.ntmps87 (by simp) hμ ?_
  repeat' (first | refine KO ?_ | ((with_reducible apply C1); exact rfl; exact EN; exact fun w μc hw hse => hasPre_spec s p hs hp' w μc hw) | refine KI ?_ | (refine KB ?_ ?_ <;> intro hp) | refine KG ?_ | fail)
  exact ret_s rfl rfl rfl
end
section
open Go.RowKit Go.Vcg
def cutB : List UInt8 := [9, 10, 13, 32]
def numOr (r : Int × Bool) (sign : Int) : V := if r.2 then ofF (sign * r.1) else nanV
def readT (t : List UInt8) : V :=
  if t = [] then ofF 0 else if t.take 2 = [48, 120] ∨ t.take 2 = [48, 88] then numOr (count2 16 (t.drop 2)) 1
  else numOr (count2 10 (if t.head? = some 45 ∨ t.head? = some 43 then t.drop 1 else t)) (if t.head? = some 45 then -1 else 1)
def readF (l : List UInt8) : V := readT (Lib.trimS l cutB)
theorem trim_len (l : List UInt8) : (Lib.trimS l cutB).length ≤ l.length := by
  unfold Lib.trimS Lib.trimLeftS Lib.trimRightS
  have h1 := (List.dropWhile_sublist (cutB.contains ·) (l := List.reverse (List.dropWhile (cutB.contains ·) l.reverse))).length_le
  have h2 := (List.dropWhile_sublist (cutB.contains ·) (l := l.reverse)).length_le
  simp only [List.length_reverse] at h1 h2
  omega
theorem count2_lo (base : Int) (l : List UInt8) (hb : base = 10 ∨ base = 16) : 0 ≤ (count2 base l).1 ∧ (count2 base l).1 ≤ 9007199254740992 := by
  have key : ∀ (l : List UInt8) (n : Int), 0 ≤ n → n ≤ 9007199254740992 → ∀ m, countF base l n = some m → 0 ≤ m ∧ m ≤ 9007199254740992 := by
    intro l
    induction l with
    | nil => intro n h0 h1 m h; simp only [countF, Option.some.injEq] at h; omega
    | cons b l ih =>
      intro n h0 h1 m h
      rw [countF] at h
      split at h
      · cases h
      · split at h
        · cases h
        · have := digitF_lo (c := b.toNat) (by omega)
          refine ih _ ?_ ?_ m h
          · rcases hb with rfl | rfl <;> omega
          · omega
  unfold count2
  split
  · rename_i n h; exact key l 0 (by omega) (by omega) n h
  · simp
attribute [local irreducible] G GC GQ GA GAop Calls IntKind.wrap Int.decLt Int.decLe
theorem trim_spec (s : ByteArray) (hs : s.size ≤ 9223372036854775807) (w : World) :
    Calls Tryz.prog 86 #[.string s, .string ⟨#[9, 10, 13, 32]⟩] w fun e w' => e = .returned (.string ⟨(Lib.trimS (bl s) cutB).toArray⟩) ∧ Below w.heap.size w w' :=
  Any.strings_Trim_laid Tryz.lays160 (by kernel_rfl) s ⟨#[9, 10, 13, 32]⟩ w hs (by decide) (ascii_of_all (by decide))
theorem numOr_t {r : Int × Bool} {sign : Int} (h : r.2 = true) : numOr r sign = ofF (sign * r.1) := by unfold numOr; rw [if_pos h]
theorem numOr_f {r : Int × Bool} {sign : Int} (h : r.2 = false) : numOr r sign = nanV := by unfold numOr; rw [if_neg (by simp [h])]
theorem head_at {s : ByteArray} {b : UInt8} (h : 0 < s.size) : (bl s).head? = some b ↔ bAt s 0 = b.toNat := by
  obtain ⟨c, h1, h2⟩ := bl_at h
  rw [List.head?_eq_getElem?, h1, h2]
  constructor
  · intro e; cases e; rfl
  · intro e
    have : c = b := UInt8.toNat_inj.1 (by omega)
    rw [this]
theorem read_spec (s : ByteArray) (hs : s.size ≤ 9223372036854775807) (w : World) (μ : Mem) (hμ : MOk μ w) :
    Calls Tryz.prog 60 #[.string s] w fun e w' => e = .returned (.agg (encV (readF (bl s))).toArray) ∧ Below w.heap.size w w' := by
  refine call_intro Tryz.func60 rfl Tryz.ntmps60 (by simp) hμ ?_
  unfold readF
  have hl := trim_len (bl s)
  rw [bl_len] at hl
  generalize ht : (⟨(Lib.trimS (bl s) cutB).toArray⟩ : ByteArray) = t
  have hbt : Lib.trimS (bl s) cutB = bl t := by rw [← ht]
  have htl : t.size ≤ 9223372036854775807 := by rw [← bl_len, ← hbt]; omega
  rw [hbt]
  have htrim : ∀ w, Calls Tryz.prog 86 #[.string s, .string ⟨#[9, 10, 13, 32]⟩] w fun e w' => e = .returned (.string t) ∧ Below w.heap.size w w' := fun w => by
    have := trim_spec s hs w
    rw [ht] at this
    exact this
  clear ht hbt hl
  by_cases h0 : t = ⟨#[]⟩
  · subst h0
    have hr : readT (bl ⟨#[]⟩) = ofF 0 := by unfold readT; exact if_pos rfl
    rw [hr]
    repeat' (first | refine KO ?_ | ((with_reducible apply F1 86); exact rfl; exact EN; exact fun w μc hw hse => htrim w) | ((with_reducible apply F1 73); exact rfl; exact EN; exact fun w μc hw hse => of_spec _ w μc hw) | ((with_reducible apply F1 89); exact rfl; exact EN; exact fun w μc hw hse => none_spec w μc hw) | ((with_reducible apply F1 87); exact rfl; exact EN; exact fun w μc hw hse => hasPrefix_spec t _ htl (by decide) w μc hw) | refine KI ?_ | refine NB fun b => ?_ | (refine KB ?_ ?_ <;> intro hp) | refine KG ?_ | fail)
    exact ret_v1 rfl (RG 0 rfl rfl rfl rfl rfl) rfl
  · have h0' : bl t ≠ [] := fun h => h0 ((bl_empty_iff t).2 h)
    have hpos : 0 < t.size := by
      rw [← bl_len]
      exact List.length_pos_iff.2 h0'
    by_cases h16 : (bl t).take 2 = [48, 120] ∨ (bl t).take 2 = [48, 88]
    · have h2 : 2 ≤ t.size := by
        have : ((bl t).take 2).length = 2 := by rcases h16 with h | h <;> rw [h] <;> rfl
        rw [List.length_take, bl_len] at this
        omega
      have hr : readT (bl t) = numOr (count2 16 ((bl t).drop 2)) 1 := by unfold readT; rw [if_neg h0', if_pos h16]
      rw [hr]
      have hu : bl (t.extract 2 t.size) = (bl t).drop 2 := by
        rw [bl_extract]
        exact List.take_of_length_le (by rw [List.length_drop, bl_len]; omega)
      have hus : (t.extract 2 t.size).size ≤ 9223372036854775807 := by rw [← bl_len, hu, List.length_drop, bl_len]; omega
      have hcnt : ∀ (w : World) (μ : Mem), MOk μ w → Calls Tryz.prog 88 #[.string (t.extract 2 t.size), .int .i64 16] w fun e w' => e = .returned (.tuple #[.int .i64 (count2 16 ((bl t).drop 2)).1, .bool (count2 16 ((bl t).drop 2)).2]) ∧ Below w.heap.size w w' := fun w μ hμ => by
        have := numCount_spec (t.extract 2 t.size) 16 (.inr rfl) hus w μ hμ
        rw [hu] at this
        exact this
      generalize count2 16 ((bl t).drop 2) = r at hcnt
      have q : ((bl t).take (ByteArray.size ⟨#[48, 120]⟩) = bl ⟨#[48, 120]⟩) ∨ (¬ (bl t).take (ByteArray.size ⟨#[48, 120]⟩) = bl ⟨#[48, 120]⟩ ∧ (bl t).take (ByteArray.size ⟨#[48, 88]⟩) = bl ⟨#[48, 88]⟩) := by
        by_cases h : (bl t).take 2 = [48, 120]
        · exact .inl h
        · exact .inr ⟨h, h16.resolve_left h⟩
      rcases q with q | ⟨q, q'⟩
      all_goals repeat' (first | refine KO ?_ | ((with_reducible apply F1 86); exact rfl; exact EN; exact fun w μc hw hse => htrim w) | ((with_reducible apply F1 73); exact rfl; exact EN; exact fun w μc hw hse => of_spec _ w μc hw) | ((with_reducible apply F1 89); exact rfl; exact EN; exact fun w μc hw hse => none_spec w μc hw) | ((with_reducible apply F1 87); exact rfl; exact EN; exact fun w μc hw hse => hasPrefix_spec t _ htl (by decide) w μc hw) | ((with_reducible apply F1 88); exact rfl; exact EN; exact fun w μc hw hse => hcnt w μc hw) | (refine KV (b := by first | ((with_reducible apply v_str_lo 2); exact rfl; exact rfl; exact rfl; exact rfl; omega)) (c := ?_)) | refine KI ?_ | refine NB fun b => ?_ | (refine KB ?_ ?_ <;> intro hp) | refine KG ?_ | fail)
      all_goals first
        | (rw [numOr_t (by assumption), Int.one_mul]; exact ret_v1 rfl (RG 0 rfl rfl rfl rfl rfl) rfl)
        | (rw [numOr_f (by assumption)]; exact ret_v1 rfl (RG 0 rfl rfl rfl rfl rfl) rfl)
    · have hr : readT (bl t) = numOr (count2 10 (if (bl t).head? = some 45 ∨ (bl t).head? = some 43 then (bl t).drop 1 else bl t)) (if (bl t).head? = some 45 then -1 else 1) := by unfold readT; rw [if_neg h0', if_neg h16]
      rw [hr]
      have hh := head_at (s := t) (b := 45) hpos
      have hh' := head_at (s := t) (b := 43) hpos
      simp only [hh, hh']
      rw [show (45 : UInt8).toNat = 45 from rfl, show (43 : UInt8).toNat = 43 from rfl]
      clear hr hh hh'
      have hu : bl (t.extract 1 t.size) = (bl t).drop 1 := by
        rw [bl_extract]
        exact List.take_of_length_le (by rw [List.length_drop, bl_len]; omega)
      have hus : (t.extract 1 t.size).size ≤ 9223372036854775807 := by rw [← bl_len, hu, List.length_drop, bl_len]; omega
      have hcnt : ∀ (w : World) (μ : Mem), MOk μ w → Calls Tryz.prog 88 #[.string (t.extract 1 t.size), .int .i64 10] w fun e w' => e = .returned (.tuple #[.int .i64 (count2 10 ((bl t).drop 1)).1, .bool (count2 10 ((bl t).drop 1)).2]) ∧ Below w.heap.size w w' := fun w μ hμ => by
        have := numCount_spec (t.extract 1 t.size) 10 (.inl rfl) hus w μ hμ
        rw [hu] at this
        exact this
      have c1 := count2_lo 10 ((bl t).drop 1) (.inl rfl)
      have c2 := count2_lo 10 (bl t) (.inl rfl)
      have hb0 := bAt_lo t 0
      have n1 : ¬ (bl t).take (ByteArray.size ⟨#[48, 120]⟩) = bl ⟨#[48, 120]⟩ := fun h => h16 (.inl h)
      have n2 : ¬ (bl t).take (ByteArray.size ⟨#[48, 88]⟩) = bl ⟨#[48, 88]⟩ := fun h => h16 (.inr h)
      repeat' (first | refine KO ?_ | ((with_reducible apply F1 86); exact rfl; exact EN; exact fun w μc hw hse => htrim w) | ((with_reducible apply F1 73); exact rfl; exact EN; exact fun w μc hw hse => of_spec _ w μc hw) | ((with_reducible apply F1 89); exact rfl; exact EN; exact fun w μc hw hse => none_spec w μc hw) | ((with_reducible apply F1 87); exact rfl; exact EN; exact fun w μc hw hse => hasPrefix_spec t _ htl (by decide) w μc hw) | ((with_reducible apply F1 88); exact rfl; exact EN; exact fun w μc hw hse => hcnt w μc hw) | ((with_reducible apply F1 88); exact rfl; exact EN; exact fun w μc hw hse => numCount_spec t 10 (.inl rfl) htl w μc hw) | (refine KV (b := by first | exact U2 0 | ((with_reducible apply v_str_lo 1); exact rfl; exact rfl; exact rfl; exact rfl; omega)) (c := ?_)) | refine KI ?_ | refine NB fun b => ?_ | (refine KB ?_ ?_ <;> intro hp) | refine KG ?_ | fail)
      all_goals first | rw [if_pos (by omega)] | rw [if_neg (by omega)]
      all_goals first | rw [if_pos (by omega)] | rw [if_neg (by omega)]
      all_goals first
        | (rw [numOr_t (by assumption)]; exact ret_v1 rfl (RG 0 rfl rfl rfl rfl rfl) rfl)
        | (rw [numOr_f (by assumption)]; exact ret_v1 rfl (RG 0 rfl rfl rfl rfl rfl) rfl)
end
section
open Go.RowKit Go.Vcg
def blankF (c : Int) : Bool := decide (c = 9) || decide (c = 10) || decide (c = 13) || decide (c = 32)
theorem blank_cut (b : UInt8) : blankF b.toNat = cutB.contains b := by
  have h : ∀ k : UInt8, ((b.toNat : Int) = (k.toNat : Int)) ↔ b = k := fun k => by
    constructor
    · intro e; exact UInt8.toNat_inj.1 (by omega)
    · rintro rfl; rfl
  have h9 := h 9; have h10 := h 10; have h13 := h 13; have h32 := h 32
  rw [show ((9 : UInt8).toNat : Int) = 9 from rfl] at h9
  rw [show ((10 : UInt8).toNat : Int) = 10 from rfl] at h10
  rw [show ((13 : UInt8).toNat : Int) = 13 from rfl] at h13
  rw [show ((32 : UInt8).toNat : Int) = 32 from rfl] at h32
  rw [Bool.eq_iff_iff]
  simp [blankF, cutB, h9, h10, h13, h32, or_assoc]
attribute [local irreducible] G GC GQ GA GAop Calls IntKind.wrap Int.decLt Int.decLe
section
variable (w : World) (μ : Mem) (hμ : MOk μ w)
include hμ
end
end
section
open Go.RowKit Go.Vcg
theorem take2 {t : List UInt8} {a b : UInt8} : t.take 2 = [a, b] ↔ t[0]? = some a ∧ t[1]? = some b := by
  match t with
  | [] => simp
  | [x] => simp
  | x :: y :: r => simp
attribute [local irreducible] G GC GQ GA GAop Calls IntKind.wrap Int.decLt Int.decLe
end
section
open Go.RowKit Go.Vcg
attribute [local irreducible] G GC GQ GA GAop Calls IntKind.wrap Int.decLt Int.decLe
end
section
open Go.RowKit Go.Vcg
def wholeF (v : V) : Bool := decide (v.k = 3) && (decide (v.s = ⟨#[]⟩) && inF v.n)
theorem inF_iff {n : Int} : inF n = true ↔ -9007199254740992 ≤ n ∧ n ≤ 9007199254740992 := by simp [inF]
theorem wholeF_n {v : V} (h : wholeF v = true) : -9007199254740992 ≤ v.n ∧ v.n ≤ 9007199254740992 := by
  unfold wholeF at h
  simp only [Bool.and_eq_true] at h
  exact inF_iff.1 h.2.2
attribute [local irreducible] G GC GQ GA GAop Calls IntKind.wrap Int.decLt Int.decLe
section
variable (w : World) (μ : Mem) (hμ : MOk μ w)
include hμ
theorem whole_spec (v : V) : Calls Tryz.prog 90 #[.agg (encV v).toArray] w fun e w' => e = .returned (.tuple #[.int .i64 v.n, .bool (wholeF v)]) ∧ Below w.heap.size w w' := by
  refine call_intro Tryz.func90 rfl Tryz.ntmps90 (by simp) hμ ?_
  repeat' (first | refine KK ?_ | refine NB fun b => ?_ | (refine KB ?_ ?_ <;> intro hp) | refine KG ?_ | fail)
  refine gc_draw 17 _ (by kernel_rfl) rfl (List.Sublist.cons_cons _ (List.nil_sublist _)) ?_
  all_goals refine DD 0 ?_
  all_goals refine DD 1 ?_
  all_goals refine DD 2 ?_
  all_goals refine DD 3 ?_
  all_goals refine DD 4 ?_
  all_goals refine DD 5 ?_
  all_goals (try (refine D7 6 ?_; (repeat' (first | refine KO ?_ | (refine KB ?_ ?_ <;> intro hp)))))
  all_goals refine DD 6 ?_
  all_goals refine DD 7 ?_
  all_goals refine DD 8 ?_
  all_goals refine DD 9 ?_
  all_goals refine DD 10 ?_
  all_goals (try (refine D7 11 ?_; (repeat' (first | refine KO ?_ | (refine KB ?_ ?_ <;> intro hp)))))
  all_goals refine DD 11 ?_
  all_goals refine DD 12 ?_
  all_goals (first | (refine D3 13 ?_; refine D5 ?_; (with_reducible apply C1); exact rfl; exact EN; exact fun w μc hw hse => in_spec v.n w μc hw; refine D9 ?_) | refine D3 13 (D6 ?_))
  all_goals refine DD 14 ?_
  all_goals refine DD 15 ?_
  all_goals refine DD 16 ?_
  all_goals refine D8 ?_
  all_goals repeat' (first | refine KK ?_ | refine NB fun b => ?_ | (refine KB ?_ ?_ <;> intro hp) | refine KG ?_ | fail)
  all_goals refine ret_s2 rfl rfl rfl rfl ?_
  all_goals unfold wholeF
  all_goals simp_all
theorem whole_at (v : V) {c : Bool} (h : wholeF v = c) : Calls Tryz.prog 90 #[.agg (encV v).toArray] w fun e w' => e = .returned (.tuple #[.int .i64 v.n, .bool c]) ∧ Below w.heap.size w w' := by
  have := whole_spec w μ hμ v
  rwa [h] at this
end
end
section
open Go.RowKit Go.Vcg
attribute [local irreducible] G GC GQ GA GAop Calls IntKind.wrap Int.decLt Int.decLe
end
section
open Go.RowKit Go.Vcg
def tabName : String := ((Rows.irKindsRow.laid[2]?).map (·.1)).getD ""
def TabOk (μ : Mem) : Prop := ∀ w, MOk μ w → Lib.TabIs Tryz.prog w tabName .u64 Lib.pow10Tab
theorem TabOk.mono {μ μ' : Mem} (h : TabOk μ) (hle : MLe μ μ') : TabOk μ' := fun w hw => h w (fun b o e => hw b o (hle b o e))
def nanS : ByteArray := ⟨#[78, 97, 78]⟩
def textF (v : V) : ByteArray := if wholeF v = true then ⟨(Lib.itoa v.n).toArray⟩ else nanS
attribute [local irreducible] G GC GQ GA GAop Calls IntKind.wrap Int.decLt Int.decLe
theorem itoa_spec (n : Int) (hn : -9007199254740992 ≤ n ∧ n ≤ 9007199254740992) (w : World) (ht : Lib.TabIs Tryz.prog w tabName .u64 Lib.pow10Tab) :
    Calls Tryz.prog 91 #[.int .i64 n] w fun e w' => e = .returned (.string ⟨(Lib.itoa n).toArray⟩) ∧ Below w.heap.size w w' :=
  (Any.strconv_Itoa Tryz.laysM171 n (by omega) (by omega) w ht).mono fun e w' ⟨he, k, os, hw⟩ => ⟨he, by rw [hw]; exact Lib.below_grow _ w (Nat.le_refl _) k os⟩
section
variable (w : World) (μ : Mem) (hμ : MOk μ w) (ht : TabOk μ)
include hμ ht
theorem text_spec (v : V) : Calls Tryz.prog 61 #[.agg (encV v).toArray] w fun e w' => e = .returned (.string (textF v)) ∧ Below w.heap.size w w' := by
  refine call_intro Tryz.func61 rfl Tryz.ntmps61 (by simp) hμ ?_
  cases hw : wholeF v
  · have hF : textF v = nanS := by unfold textF; rw [if_neg (by simp [hw])]
    rw [hF]
    repeat' (first | refine KO ?_ | ((with_reducible apply F1 90); exact rfl; exact EN; exact fun w μc hw' hse => whole_at w μc hw' v hw) | refine KI ?_ | refine NB fun b => ?_ | (refine KB ?_ ?_ <;> intro hp) | refine KG ?_ | fail)
    exact ret_s rfl rfl rfl
  · have hF : textF v = ⟨(Lib.itoa v.n).toArray⟩ := by unfold textF; rw [if_pos hw]
    rw [hF]
    have hn := wholeF_n hw
    repeat' (first | refine KO ?_ | ((with_reducible apply F1 90); exact rfl; exact EN; exact fun w μc hw' hse => whole_at w μc hw' v hw) | ((with_reducible apply F1 91); exact rfl; exact EN; exact fun w μc hw' hse => itoa_spec v.n hn w ((ht.mono hse.le) w hw')) | refine KI ?_ | refine NB fun b => ?_ | (refine KB ?_ ?_ <;> intro hp) | refine KG ?_ | fail)
    exact ret_s rfl rfl rfl
end
end
section
open Go.RowKit Go.Vcg
attribute [local irreducible] G GC GQ GA GAop Calls IntKind.wrap Int.decLt Int.decLe
section
variable (w : World) (μ : Mem) (hμ : MOk μ w)
include hμ
end
end
section
open Go.RowKit Go.Vcg
attribute [local irreducible] G GC GQ GA GAop Calls IntKind.wrap Int.decLt Int.decLe
section
variable (w : World) (μ : Mem) (hμ : MOk μ w)
include hμ
end
end
section
open Go.RowKit Go.Vcg
theorem count_append (base : Int) : ∀ (l : List UInt8) (b : UInt8) (n : Int), countF base (l ++ [b]) n = match countF base l n with
    | none => none
    | some k => if digitF b.toNat ≥ base then none else if k * base + digitF b.toNat > 9007199254740992 then none else some (k * base + digitF b.toNat)
  | [], b, n => by simp [countF]
  | a :: l, b, n => by
    rw [List.cons_append, countF, countF]
    split
    · rfl
    · split
      · rfl
      · exact count_append base l b _
theorem digit_byte {k : Nat} (h : k < 10) : ((UInt8.ofNat (48 + k)).toNat : Int) = 48 + k := by
  have : (UInt8.ofNat (48 + k)).toNat = 48 + k := by
    rw [UInt8.toNat_ofNat']
    exact Nat.mod_eq_of_lt (by omega)
  omega
theorem digitF_digit {k : Nat} (h : k < 10) : digitF ((UInt8.ofNat (48 + k)).toNat : Int) = k := by
  rw [digit_byte h]
  unfold digitF
  rw [if_pos (by omega)]
  omega
theorem count_digits (m : Nat) : m ≤ 9007199254740992 → countF 10 (Lib.decDigits m) 0 = some (m : Int) := by
  induction m using Nat.strongRecOn with
  | _ m ih =>
    intro hm
    rw [Lib.decDigits]
    split
    · rename_i h
      rw [countF, digitF_digit h, if_neg (by omega), if_neg (by omega), countF]
      congr 1; omega
    · rename_i h
      have h10 : m % 10 < 10 := by omega
      rw [count_append, ih (m / 10) (by omega) (by omega)]
      simp only [digitF_digit h10]
      rw [if_neg (by omega), if_neg (by omega)]
      congr 1; omega
theorem digits_mem (m : Nat) : ∀ b ∈ Lib.decDigits m, 48 ≤ b.toNat ∧ b.toNat ≤ 57 := by
  induction m using Nat.strongRecOn with
  | _ m ih =>
    intro b hb
    rw [Lib.decDigits] at hb
    split at hb
    · rename_i h
      simp only [List.mem_singleton] at hb
      have := digit_byte h
      rw [hb]; omega
    · rcases List.mem_append.1 hb with hb | hb
      · exact ih (m / 10) (by omega) b hb
      · simp only [List.mem_singleton] at hb
        have := digit_byte (k := m % 10) (by omega)
        rw [hb]; omega
theorem digits_ne (m : Nat) : Lib.decDigits m ≠ [] := by
  rw [Lib.decDigits]
  split <;> simp
theorem drop_none {p : UInt8 → Bool} : ∀ {l : List UInt8}, (∀ b ∈ l, p b = false) → l.dropWhile p = l
  | [], _ => rfl
  | a :: l, h => List.dropWhile_cons_of_neg (by rw [h a (by simp)]; decide)
theorem trim_none {l : List UInt8} (h : ∀ b ∈ l, cutB.contains b = false) : Lib.trimS l cutB = l := by
  unfold Lib.trimS Lib.trimLeftS Lib.trimRightS
  rw [drop_none (p := (cutB.contains ·)) (l := l.reverse) (fun b hb => h b (List.mem_reverse.1 hb)), List.reverse_reverse, drop_none h]
theorem cut_of {b : UInt8} (h : 45 = b.toNat ∨ 48 ≤ b.toNat ∧ b.toNat ≤ 57) : cutB.contains b = false := by
  rw [← blank_cut]
  unfold blankF
  simp
  omega
theorem numOr_mk (l : List UInt8) (m : Nat) (s : Int) (hl : l ≠ []) (h : countF 10 l 0 = some (m : Int)) : numOr (count2 10 l) s = ofF (s * m) := by
  have e1 : count2 10 l = ((m : Int), true) := by unfold count2; rw [h]; simp [hl]
  rw [e1]; rfl
theorem read_itoa (n : Int) (hn : -9007199254740992 ≤ n ∧ n ≤ 9007199254740992) : readF (Lib.itoa n) = ofF n := by
  unfold readF Lib.itoa
  split
  · rename_i h0
    have hm := digits_mem n.natAbs
    rw [trim_none (fun b hb => by
      rcases List.mem_cons.1 hb with rfl | hb
      · exact cut_of (.inl rfl)
      · exact cut_of (.inr (hm b hb)))]
    unfold readT
    rw [if_neg (by simp), if_neg (by intro h; rcases h with h | h <;> simp at h), if_pos (.inl rfl), if_pos (show (45 :: Lib.decDigits n.natAbs).head? = some 45 from rfl)]
    rw [List.drop_one, List.tail_cons, numOr_mk _ _ _ (digits_ne _) (count_digits _ (by omega))]
    congr 1; omega
  · rename_i h0
    have hm := digits_mem n.toNat
    have hne := digits_ne n.toNat
    have hc := count_digits n.toNat (by omega)
    rw [trim_none (fun b hb => cut_of (.inr (hm b hb)))]
    generalize Lib.decDigits n.toNat = l at *
    unfold readT
    have hhd : ∀ c : UInt8, (c.toNat < 48 ∨ 57 < c.toNat) → l.head? ≠ some c := fun c hcc h => by
      have := hm c (List.mem_of_head? h)
      omega
    rw [if_neg hne, if_neg (by
      rw [take2, take2]
      rintro (⟨_, h⟩ | ⟨_, h⟩)
      · have := hm _ (List.mem_of_getElem? h)
        revert this; decide
      · have := hm _ (List.mem_of_getElem? h)
        revert this; decide)]
    rw [if_neg (fun h => by rcases h with h | h; exact hhd 45 (by decide) h; exact hhd 43 (by decide) h), if_neg (hhd 45 (by decide)), numOr_mk _ _ _ hne hc]
    congr 1; omega
end
end Go.Proofs.YtoclmkdfcafhfaaGreatDoor
namespace Go.Proofs
open Go.Shelf Go.RowKit Go.Lib
section
variable {P : Program} {ρ : Ren}
set_option maxHeartbeats 2000000 in
set_option maxRecDepth 100000 in
set_option maxHeartbeats 2000000 in
set_option maxRecDepth 100000 in
end
end Go.Proofs
namespace Go.Proofs.YtoclmkdfcafhfaaGreatDoor
open Go.Shelf Go.RowKit Go.Vcg
def bRen : Ren := ⟨fun | 166 => 70 | 167 => 72 | 240 => 103 | 276 => 132 | n => n, fun | 37 => 73 | 70 => 72 | 72 => 75 | 75 => 106 | 80 => 58 | 164 => 154 | n => n, fun n => n⟩
theorem bLays166 : Lays.n166 Tryz.prog bRen := {
  mixed := by kernel_rfl
  f166 := Tryz.func70.trans (congrArg some (by kernel_rfl))
  f240 := Tryz.func103.trans (congrArg some (by kernel_rfl))
  f276 := Tryz.func132.trans (congrArg some (by kernel_rfl))
  t0 := by kernel_rfl
  a0 := Go.Vcg.run_isAgg (by kernel_rfl)
  z0 := Go.Vcg.run_sizeOf (by kernel_rfl)
  v0 := Go.Vcg.run_zeroValue (by kernel_rfl)
  t3 := by kernel_rfl
  a3 := Go.Vcg.run_isAgg (by kernel_rfl)
  z3 := Go.Vcg.run_sizeOf (by kernel_rfl)
  v3 := Go.Vcg.run_zeroValue (by kernel_rfl)
  t4 := by kernel_rfl
  a4 := Go.Vcg.run_isAgg (by kernel_rfl)
  z4 := Go.Vcg.run_sizeOf (by kernel_rfl)
  v4 := Go.Vcg.run_zeroValue (by kernel_rfl)
  t9 := by kernel_rfl
  a9 := Go.Vcg.run_isAgg (by kernel_rfl)
  z9 := Go.Vcg.run_sizeOf (by kernel_rfl)
  v9 := Go.Vcg.run_zeroValue (by kernel_rfl)
  t20 := by kernel_rfl
  a20 := Go.Vcg.run_isAgg (by kernel_rfl)
  z20 := Go.Vcg.run_sizeOf (by kernel_rfl)
  v20 := Go.Vcg.run_zeroValue (by kernel_rfl)
  t37 := by kernel_rfl
  a37 := Go.Vcg.run_isAgg (by kernel_rfl)
  z37 := Go.Vcg.run_sizeOf (by kernel_rfl)
  v37 := Go.Vcg.run_zeroValue (by kernel_rfl)
  t70 := by kernel_rfl
  a70 := Go.Vcg.run_isAgg (by kernel_rfl)
  z70 := Go.Vcg.run_sizeOf (by kernel_rfl)
  v70 := Go.Vcg.run_zeroValue (by kernel_rfl)
  t72 := by kernel_rfl
  a72 := Go.Vcg.run_isAgg (by kernel_rfl)
  z72 := Go.Vcg.run_sizeOf (by kernel_rfl)
  v72 := Go.Vcg.run_zeroValue (by kernel_rfl)
  t75 := by kernel_rfl
  a75 := Go.Vcg.run_isAgg (by kernel_rfl)
  z75 := Go.Vcg.run_sizeOf (by kernel_rfl)
  v75 := Go.Vcg.run_zeroValue (by kernel_rfl)
  t164 := by kernel_rfl
  a164 := Go.Vcg.run_isAgg (by kernel_rfl)
  z164 := Go.Vcg.run_sizeOf (by kernel_rfl)
  v164 := Go.Vcg.run_zeroValue (by kernel_rfl) }
theorem bldExtra : Builder.Extra Tryz.prog bRen := {
  sizeBuilder := by kernel_rfl
  liesBuilder := by kernel_rfl
  t5 := by kernel_rfl
  a5 := Go.Vcg.run_isAgg (by kernel_rfl)
  z5 := Go.Vcg.run_sizeOf (by kernel_rfl)
  v5 := Go.Vcg.run_zeroValue (by kernel_rfl)
  infoByte := by kernel_rfl
  cellsByte := by kernel_rfl
  sizeByte := by kernel_rfl
  neB5 := by decide }
end Go.Proofs.YtoclmkdfcafhfaaGreatDoor
namespace Go.Vcg
section
open Go.RowKit
section
variable {P : Program} {X : Ctx} {ops : Array Oper} {Q : Exit → Act → World → Prop} {rest : List Oper} {μ : Mem} {l : Slots} {L : List Bk} {a : Act} {w : World} {o : Oper}
def NotRow (u : TypeId) : List Bk → Bool
  | [] => true
  | .inl x :: r => !(Nat.beq x.t u) && NotRow u r
  | _ :: _ => false
theorem NotRow.at {u : TypeId} : ∀ {L : List Bk}, NotRow u L = true → ∀ x ∈ L, ∃ y : Blk, x = .inl y ∧ y.t ≠ u
  | .inl y :: r, h, x, hx => by
    simp only [NotRow, Bool.and_eq_true, Bool.not_eq_true'] at h
    rcases List.mem_cons.1 hx with rfl | hx
    · exact ⟨y, rfl, Nat.ne_of_beq_eq_false h.1⟩
    · exact NotRow.at h.2 x hx
  | .inr _ :: _, h, _, _ => by simp [NotRow] at h
  | .mp _ :: _, h, _, _ => by simp [NotRow] at h
  | .it _ _ _ _ _ :: _, h, _, _ => by simp [NotRow] at h
theorem St.build {T u : TypeId} {k : Nat} {p v : Value} {bs : List Value} {Lr : List Bk} (h : St X μ l (.inl ⟨k, T, 2, [(0, p), (1, v)]⟩ :: .inr ⟨v, u, 1, bs.length, bs⟩ :: Lr) a w) (hM : X.M = []) (hTu : T ≠ u) : Lib.BuilderAt T u X.w0.heap.size k p bs w := by
  obtain ⟨arr, hh, hsz, hcs⟩ := h.own _ (List.Mem.head _)
  have h0 : arr[0]? = some p := hcs 0 p rfl
  have h1 : arr[1]? = some v := hcs 1 v rfl
  have harr : arr = #[p, v] := by
    apply Array.ext_getElem?
    intro i
    match i with
    | 0 => simpa using h0
    | 1 => simpa using h1
    | i + 2 => rw [Array.getElem?_eq_none (by simp only at hsz; omega), Array.getElem?_eq_none (by simp)]
  subst harr
  have hk : X.w0.heap.size ≤ k := by
    rcases h.new _ (List.Mem.head _) k rfl with h' | h'
    · rw [hM] at h'; simp at h'
    · exact h'
  have hown : w.ownsRow 0 u 1 v bs.length bs := h.own _ (List.Mem.tail _ (List.Mem.head _))
  have hown' : w.ownsRow X.w0.heap.size u 1 v bs.length bs := by
    refine ⟨hown.1, hown.2.imp (fun h => h) ?_⟩
    rintro ⟨g, cap, cur, hv', _, h3⟩
    refine ⟨g, cap, cur, hv', ?_, h3⟩
    rcases h.new _ (List.Mem.tail _ (List.Mem.head _)) g (by simp [Bk.id, hv', Value.ownBlock]) with h' | h'
    · rw [hM] at h'; simp at h'
    · exact h'
  exact ⟨hk, v, hh, hown', Lib.ownBlock_ne hown' hh hTu⟩
theorem gc_nilRow {c : Code} {y : Bk} (e s : TypeId) (h : GC P X c Q μ l (y :: .inr ⟨.slice none 0 0, e, s, 0, []⟩ :: L)) : GC P X c Q μ l (y :: L) := fun a w hs =>
  h a w ((hs.nilRow e s).perm (List.Perm.swap _ _ _))
theorem g_bstring {T u : TypeId} {k : Nat} {p v : Value} {bs : List Value} {Lr : List Bk} {f : FuncId} {vs : Array Value} {rv : Value} {d : Nat} (hd : o.dst = some d) (hn : Nat.blt d X.n = true) (hw : wants ops l o = some true) (hM : X.M = []) (hμ : ∀ b, X.w0.heap.size ≤ b → μ b = none) (hTu : T ≠ u)
    (hr : Ent P μ l (.inl ⟨k, T, 2, [(0, p), (1, v)]⟩ :: .inr ⟨v, u, 1, bs.length, bs⟩ :: Lr) o f vs)
    (hc : ∀ w, Lib.BuilderAt T u X.w0.heap.size k p bs w → X.w0.heap.size ≤ w.heap.size → Calls P f vs w fun e w' => e = .returned rv ∧ Below X.w0.heap.size w w')
    (h : G P X ops Q rest μ ((d, rv) :: l) []) :
    G P X ops Q (o :: rest) μ l (.inl ⟨k, T, 2, [(0, p), (1, v)]⟩ :: .inr ⟨v, u, 1, bs.length, bs⟩ :: Lr) :=
  g_wp hw fun a w hs => by
    unfold Oper.wp
    rw [hr a w hs.rd, Oper.upon_enter]
    refine (hc w (hs.build hM hTu) hs.keep.size).mono fun en w' he => ?_
    obtain ⟨rfl, hbel⟩ := he
    show wpList P ops Q rest (a.put o.dst rv) w'
    rw [hd]
    refine h _ _ (St.put ⟨hs.size, hs.defers, hs.slots, ?_, ?_, hs.from0, hs.fresh, fun x hx => (by cases hx), fun x hx => (by cases hx), fun x hx => (by cases hx), List.Pairwise.nil⟩ hn _)
    · exact ⟨hbel.os.trans hs.keep.os, hbel.tape.trans hs.keep.tape, hbel.output.trans hs.keep.output, Nat.le_trans hs.keep.size hbel.size, fun b hb' hn => (hbel.block b hb').trans (hs.keep.block b hb' hn)⟩
    · intro b ob hbo
      rcases Nat.lt_or_ge b X.w0.heap.size with hlt | hge
      · exact (hbel.block b hlt).trans (hs.mem b ob hbo)
      · rw [hμ b hge] at hbo; cases hbo
theorem mok_none {μ : Mem} {w : World} (h : MOk μ w) : ∀ b, w.heap.size ≤ b → μ b = none := fun b hb => by
  cases hm : μ b with
  | none => rfl
  | some o => have := (Array.getElem?_eq_some_iff.1 (h b o hm)).1; omega
end
end
section
open Go.RowKit
section
variable {P : Program} {μ : Mem} {l : Slots} {L : List Bk} {ds : Option Nat} {ty : TypeId} {pos : String} {af : Array Edge} {gd : Option (Nat × Bool)}
theorem v_shr8 {p : Operand} {t t2 : TypeId} {x : Int} (hx0 : ev l p = some (.int .u8 x)) : Val P μ l L ⟨ds, .binOp .shr t p (.const (.int .u64 4)) t2, ty, pos, af, gd⟩ (.int .u8 (x / 16)) :=
  fun a w hs => by
    have e0 := hs.eval hx0
    have e1 := hs.eval (x := .const (.int .u64 4)) rfl
    generalize a.eval = ρ at e0 e1
    simp [execOp, e0, e1, eqGuard, binOp, Op.shift, IntKind.bits]
    rw [Int.fdiv_eq_ediv_of_nonneg _ (by decide)]
theorem and15 (x : Int) (h : 0 ≤ x ∧ x ≤ 255) : IntKind.wrap .u8 ((BitVec.ofInt 8 x &&& BitVec.ofInt 8 15).toNat : Int) = x % 16 := by
  obtain ⟨n, rfl⟩ : ∃ n : Nat, x = n := ⟨x.toNat, by omega⟩
  have hn : n < 256 := by omega
  have : (BitVec.ofInt 8 (n : Int) &&& BitVec.ofInt 8 15).toNat = n % 16 := by
    have h15 : BitVec.ofInt 8 15 = 15#8 := rfl
    rw [h15, BitVec.toNat_and, BitVec.ofInt_natCast, BitVec.toNat_ofNat, BitVec.toNat_ofNat]
    rw [Nat.mod_eq_of_lt (by omega : n < 2 ^ 8), show 15 % 2 ^ 8 = 2 ^ 4 - 1 from rfl, Nat.and_two_pow_sub_one_eq_mod]
  rw [this, wrap_u8 (by omega)]
  omega
theorem v_andk8 {p q : Operand} {t t2 : TypeId} {k : IntKind} {x y : Int} (hx0 : ev l p = some (.int k x)) (hx1 : ev l q = some (.int k y)) : Val P μ l L ⟨ds, .binOp .and t p q t2, ty, pos, af, gd⟩ (.int k (k.wrap (BitVec.ofInt k.bits x &&& BitVec.ofInt k.bits y).toNat)) :=
  fun a w hs => by have e0 := hs.eval hx0; have e1 := hs.eval hx1; generalize a.eval = ρ at e0 e1; simp [execOp, e0, e1, eqGuard, binOp, Op.intBits]
theorem v_and8 {p : Operand} {t t2 : TypeId} {x : Int} (hx0 : ev l p = some (.int .u8 x)) (h : 0 ≤ x ∧ x ≤ 255) : Val P μ l L ⟨ds, .binOp .and t p (.const (.int .u8 15)) t2, ty, pos, af, gd⟩ (.int .u8 (x % 16)) := by
  rw [← and15 x h]
  exact v_andk8 hx0 rfl
end
end
end Go.Vcg
namespace Go.Proofs.YtoclmkdfcafhfaaGreatDoor
open Go.Shelf Go.RowKit Go.Vcg
open Go.Lib (byteCells)
theorem bExtra169 : Builder.Extra Tryz.prog Tryz.lays169_ren := {
  sizeBuilder := by kernel_rfl
  liesBuilder := by kernel_rfl
  t5 := by kernel_rfl
  a5 := Go.Vcg.run_isAgg (by kernel_rfl)
  z5 := Go.Vcg.run_sizeOf (by kernel_rfl)
  v5 := Go.Vcg.run_zeroValue (by kernel_rfl)
  infoByte := by kernel_rfl
  cellsByte := by kernel_rfl
  sizeByte := by kernel_rfl
  neB5 := by decide }
theorem byteCells_app (a b : List UInt8) : byteCells (a ++ b) = byteCells a ++ byteCells b := by simp [byteCells]
section
variable {X : Ctx} {ops : Array Oper} {Q : Exit → Act → World → Prop} {rest : List Oper} {μ : Mem} {l : Slots} {L : List Bk} {o : Oper} {d : Nat}
abbrev Bld (k : Nat) (p v : Value) (out : List UInt8) (Lr : List Bk) : List Bk := .inl ⟨k, 75, 2, [(0, p), (1, v)]⟩ :: .inr ⟨v, 5, 1, out.length, byteCells out⟩ :: Lr
def IsP (k : Nat) (p : Value) : Prop := p = .pointer none ∨ p = .pointer (some ⟨k, 0, none⟩)
theorem IsP.is {k B : Nat} {p : Value} {T u : TypeId} {bs : List Value} {w : World} (h : IsP k p) (hb : Lib.BuilderAt T u B k p bs w) : Lib.IsBuilder T u B k bs w := by
  rcases h with rfl | rfl
  · exact .inl hb
  · exact .inr hb
theorem len_cells (out : List UInt8) : out.length = (byteCells out).length := by simp [byteCells]
theorem g_bstr {k : Nat} {p v : Value} {out : List UInt8} {Lr : List Bk} (hd : o.dst = some d) (hn : Nat.blt d X.n = true) (hw : wants ops l o = some true)
    (hr : Ent Tryz.prog μ l (Bld k p v out Lr) o 43 #[.pointer (some ⟨k, 0, none⟩)])
    (hM : X.M = []) (hμ : ∀ b, X.w0.heap.size ≤ b → μ b = none) (hp : IsP k p)
    (h : G Tryz.prog X ops Q rest μ ((d, .string ⟨out.toArray⟩) :: l) []) : G Tryz.prog X ops Q (o :: rest) μ l (Bld k p v out Lr) := by
  unfold Bld at hr ⊢
  rw [len_cells] at hr ⊢
  refine g_bstring hd hn hw hM hμ (by decide) hr (fun w hb hs => ?_) h
  exact Any.Builder_String_any Tryz.lays169 bExtra169 X.w0.heap.size k out w (hp.is hb) hs
end
end Go.Proofs.YtoclmkdfcafhfaaGreatDoor
namespace Go.Vcg
open Go.RowKit
section
variable {P : Program} {X : Ctx} {ops : Array Oper} {Q : Exit → Act → World → Prop} {rest : List Oper} {μ : Mem} {l : Slots} {L : List Bk} {a : Act} {w : World} {d : Nat}
variable {ty : TypeId} {pos : String} {af : Array Edge} {gd : Option (Nat × Bool)}
theorem info_of {t : TypeId} {i : TypeInfo} (h : P.info? t = some i) {s b : Nat} {z : Value} (hs : sizeT P t = some s) (hb : bytesT P t = some b) (hz : zeroT P t = some z) : i.size = s ∧ i.bytes = b ∧ i.zero = some z := by
  unfold sizeT at hs
  unfold bytesT at hb
  unfold zeroT at hz
  rw [h] at hs hb hz
  simp only [nat16_eq, natB_eq, Option.some.injEq, Option.bind_some] at hs hb hz
  exact ⟨hs, hb, hz⟩
theorem aps_block {t t2 e : TypeId} {n : Nat} {v v' : Value} {xs : List Value} {s : ByteArray} {w' : World} {I : TypeInfo} (ht : P.underlying t = some (.slice e)) (hu : P.underlying t2 = some .string) (hI : P.info? e = some I) (hz : I.zero = some (.int .u8 0)) (i1 : I.size = 1) (i2 : I.bytes = 1)
    (hown : w.ownsRow 0 e 1 v n xs) (hlen : n + s.size ≤ 140737488355328) (hr : (Builtin.append_ #[t, t2] ty #[v, .string s]).run P w = .ok v' w') (h0 : v' = .slice none 0 0 ↔ v = .slice none 0 0 ∧ s.size = 0) : v'.ownBlock = v.ownBlock ∨ v'.ownBlock = some w.heap.size := by
  have hxl : xs.length = n := by simpa using hown.1
  rcases hown.2 with ⟨rfl, rfl⟩ | ⟨g, cap, cur, rfl, hbg, hg, hnc, hcm, hcs, htake⟩
  · by_cases hm : s.size = 0
    · rw [h0.2 ⟨rfl, hm⟩]; exact .inl rfl
    · have h2 := run_append_nil_string (P := P) w t t2 ty e I (.int .u8 0) ht hu hI hz s (by omega) (by omega) (by rw [i2]; omega)
      rw [hr] at h2
      cases h2
      exact .inr rfl
  · have hcz : cur.size = cap := by simpa using hcs
    by_cases hroom : n + s.size ≤ cap
    · have h2 := Lib.run_append_room_string (P := P) w t t2 ty e I ht hu hI i1 g n cap cur hg s hroom (by omega)
      rw [hr] at h2
      cases h2
      exact .inl rfl
    · have holds : ∀ j u, xs[j]? = some u → w.cell? ((⟨g, 0, none⟩ : Addr).add j) = some u := hown.cells (g := g) rfl
      have h2 := Lib.run_append_grow_string (P := P) w t t2 ty e I (.int .u8 0) ht hu hI hz ⟨g, 0, none⟩ n cap xs (by rw [i1]; simpa using hxl) holds s (by omega) (by omega) (by rw [i2]; exact growslice_fits (by omega) (by omega))
      rw [hr] at h2
      cases h2
      exact .inr rfl
theorem g_aps {p q : Operand} {t t2 e : TypeId} {n : Nat} {v : Value} {xs : List Value} {s : ByteArray} {F : Rw → List Bk} (hn : Nat.blt d X.n = true) (hw : wants ops l ⟨some d, .call { callee := .builtin .append, args := #[p, q], argTypes := #[t, t2] }, ty, pos, af, gd⟩ = some true)
    (hp : ev l p = some v) (hq : ev l q = some (.string s)) (hr : RowUp L ⟨v, e, 1, n, xs⟩ F) (ht : P.underlying t = some (.slice e)) (hu : P.underlying t2 = some .string) (hs : sizeT P e = some 1) (hz : zeroT P e = some (.int .u8 0)) (hby : bytesT P e = some 1)
    (hlen : n + s.size ≤ 140737488355328) (h : ∀ v, G P X ops Q rest μ ((d, v) :: l) (F ⟨v, e, 1, n + s.size, xs ++ Lib.strCells s⟩)) :
    G P X ops Q (⟨some d, .call { callee := .builtin .append, args := #[p, q], argTypes := #[t, t2] }, ty, pos, af, gd⟩ :: rest) μ l L :=
  g_wp hw fun a w hs' => by
    obtain ⟨i, hi, hF⟩ := hr
    have hown : w.ownsRow 0 e 1 v n xs := hs'.own _ (nthB_mem hi)
    cases hI : P.info? e with
    | none => unfold sizeT at hs; rw [hI] at hs; cases hs
    | some I =>
      obtain ⟨i1, i2, i3⟩ := info_of hI hs hby hz
      obtain ⟨v', w', r1, r2, r3, r4⟩ := Lib.run_append_own_string (P := P) w 0 t t2 ty e I ht hu hI i3 i1 i2 v n xs hown s (by simp only [maxLen]; omega) hlen (Nat.zero_le _)
      have e1 := hs'.eval hp
      have e2 := hs'.eval hq
      have ex : (execOp a.eval ⟨some d, .call { callee := .builtin .append, args := #[p, q], argTypes := #[t, t2] }, ty, pos, af, gd⟩).run P w = .ok (.value v') w' := by
        generalize a.eval = ρ at e1 e2
        simp only [execOp, resolve, invoke, builtin, Sem.run_bind, Sem.run_pure, Result.andThen_ok, List.map_toArray, List.map_cons, List.map_nil, e1, e2, r1]
      unfold Oper.wp
      rw [ex, Oper.upon_value]
      have hnew : ∀ b, v'.ownBlock = some b → v.ownBlock = some b ∨ w.heap.size ≤ b := fun b hb => by
        rcases aps_block ht hu hI i3 i1 i2 hown hlen r1 r4 with h5 | h5
        · exact .inl (h5.symm.trans hb)
        · rw [h5] at hb; cases hb; exact .inr (Nat.le_refl _)
      have hs2 := hs'.upd hi r3.os r3.tape r3.output r3.size (fun b hb hne => r3.block b hb (fun e => hne e.symm)) (y := .inr ⟨v', e, 1, n + s.size, xs ++ Lib.strCells s⟩) r2 hnew
      rw [← hF] at hs2
      exact h v' _ _ (hs2.put hn _)
end
end Go.Vcg
