/- Numbers of package num: what In, Of, digit and count compute, and their contracts. (and what leans on it). No statement of the seat is proved here. -/
import Derived.Test.YtmihpkdhfomcgaaGreatDoorVq
import Derived.Lib.SlTrimSet
import Derived.Test.YtmihpkdhfomcgaaGreatDoorSt
import Derived.Test.YtmihpkdhfomcgaaGreatDoorShelf
import Derived.Lib.AppendIntMem
import Derived.Lib.LaidU8
import Derived.Lib.LaidTab
set_option maxRecDepth 20000
set_option maxHeartbeats 2000000
namespace Go.Proofs.YtmihpkdhfomcgaaGreatDoor
open Go.RowKit Go.Vcg
structure V where
  k : Int
  n : Int
  s : ByteArray
def noS : ByteArray := ⟨#[]⟩
abbrev encV (v : V) : List Value := [.int .i64 v.k, .int .i64 v.n, .string v.s]
def nanV : V := ⟨4, 0, noS⟩
def inF (n : Int) : Bool := decide (-9007199254740992 ≤ n) && decide (n ≤ 9007199254740992)
def ofF (n : Int) : V := if inF n then ⟨3, n, noS⟩ else nanV
def digitF (c : Int) : Int := if 48 ≤ c ∧ c ≤ 57 then c - 48 else if 97 ≤ c ∧ c ≤ 102 then c - 97 + 10 else if 65 ≤ c ∧ c ≤ 70 then c - 65 + 10 else 99
def countF (base : Int) : List UInt8 → Int → Option Int
  | [], n => some n
  | b :: r, n => if digitF b.toNat ≥ base then none else if n * base + digitF b.toNat > 9007199254740992 then none else countF base r (n * base + digitF b.toNat)
def count2 (base : Int) (l : List UInt8) : Int × Bool := match countF base l 0 with
  | some n => (n, decide (l ≠ []))
  | none => (0, false)
theorem digitF_lo {c : Int} (h : 0 ≤ c) : 0 ≤ digitF c := by
  unfold digitF
  split
  · omega
  · split
    · omega
    · split <;> omega
theorem digitF_hi {c : Int} : digitF c ≤ 99 := by
  unfold digitF
  split
  · omega
  · split
    · omega
    · split <;> omega
theorem drop_cons {l : List UInt8} {i : Nat} {b : UInt8} (h : l[i]? = some b) : l.drop i = b :: l.drop (i + 1) := by
  obtain ⟨hi, rfl⟩ := List.getElem?_eq_some_iff.1 h
  exact List.drop_eq_getElem_cons hi
theorem bl_at {s : ByteArray} {i : Nat} (h : i < s.size) : ∃ b, (bl s)[i]? = some b ∧ bAt s i = b.toNat := by
  have : i < (bl s).length := by rw [bl_len]; exact h
  exact ⟨(bl s)[i], List.getElem?_eq_getElem this, bAt_get (List.getElem?_eq_getElem this)⟩
theorem ne_bl (s : ByteArray) : decide (s ≠ ⟨#[]⟩) = decide (bl s ≠ []) := by
  congr 1
  simp only [ne_eq, bl_empty_iff]
attribute [local irreducible] G GC GQ GA GAop Calls IntKind.wrap Int.decLt Int.decLe
theorem in_spec (n : Int) (w : World) (μ : Mem) (hμ : MOk μ w) :
    Calls Tryz.prog 61 #[.int .i64 n] w fun e w' => e = .returned (.bool (inF n)) ∧ Below w.heap.size w w' := by
  refine call_intro Tryz.func61 rfl Tryz.ntmps61 (by simp) hμ ?_
  repeat' (first | refine KK ?_ | ((refine KB ?_ ?_ <;> intro hp)) | refine KG ?_ | fail)
  all_goals refine ret_s rfl rfl ?_
  all_goals unfold inF
  all_goals first | (simp_all; done) | (simp_all; omega)
theorem none_spec (w : World) (μ : Mem) (hμ : MOk μ w) :
    Calls Tryz.prog 62 #[] w fun e w' => e = .returned (.agg (encV nanV).toArray) ∧ Below w.heap.size w w' := by
  refine call_intro (args := []) Tryz.func62 rfl Tryz.ntmps62 (by simp) hμ ?_
  repeat' (first | refine KK ?_ | refine NB fun b => ?_ | ((refine KB ?_ ?_ <;> intro hp)) | refine KG ?_ | fail)
  exact ret_v1 rfl (rv_agg 0 rfl rfl rfl rfl rfl (by repeat first | exact lc_nil | refine lc_cons rfl ?_)) rfl
theorem of_spec (n : Int) (w : World) (μ : Mem) (hμ : MOk μ w) :
    Calls Tryz.prog 41 #[.int .i64 n] w fun e w' => e = .returned (.agg (encV (ofF n)).toArray) ∧ Below w.heap.size w w' := by
  refine call_intro Tryz.func41 rfl Tryz.ntmps41 (by simp) hμ ?_
  unfold ofF
  repeat' (first | refine KO ?_ | ((with_reducible apply F1 61); exact rfl; exact EN; exact fun w μc hw hse => in_spec n w μc hw) | ((with_reducible apply F1 62); exact rfl; exact EN; exact fun w μc hw hse => none_spec w μc hw) | refine KI ?_ | refine NB fun b => ?_ | ((refine KB ?_ ?_ <;> intro hp)) | refine KG ?_ | fail)
  · rw [if_pos hp]
    exact ret_v1 rfl (rv_agg 0 rfl rfl rfl rfl rfl (by repeat first | exact lc_nil | refine lc_cons rfl ?_)) rfl
  · rw [if_neg (by simp [hp])]
    exact ret_v1 rfl (rv_agg 0 rfl rfl rfl rfl rfl (by repeat first | exact lc_nil | refine lc_cons rfl ?_)) rfl
theorem digit_spec (c : Int) (hc : 0 ≤ c ∧ c ≤ 255) (w : World) (μ : Mem) (hμ : MOk μ w) :
    Calls Tryz.prog 87 #[.int .u8 c] w fun e w' => e = .returned (.int .i64 (digitF c)) ∧ Below w.heap.size w w' := by
  refine call_intro Tryz.func87 rfl Tryz.ntmps87 (by simp) hμ ?_
  repeat' (first | refine KK ?_ | ((refine KB ?_ ?_ <;> intro hp)) | refine KG ?_ | fail)
  all_goals refine ret_s rfl rfl ?_
  all_goals congr 1
  all_goals unfold digitF
  all_goals (repeat' split) <;> omega
theorem count_spec (s : ByteArray) (base : Int) (hb : base = 10 ∨ base = 16) (hs : s.size ≤ 9223372036854775807) (w : World) (μ : Mem) (hμ : MOk μ w) :
    Calls Tryz.prog 69 #[.string s, .int .i64 base] w fun e w' => e = .returned (.tuple #[.int .i64 (count2 base (bl s)).1, .bool (count2 base (bl s)).2]) ∧ Below w.heap.size w w' := by
  refine call_intro Tryz.func69 rfl Tryz.ntmps69 (by simp) hμ ?_
  repeat' (first | refine KK ?_ | ((refine KB ?_ ?_ <;> intro hp)) | refine KG ?_ | fail)
  refine gc_loop (ι := Nat × Int) (fun i => i.1 ≤ s.size ∧ 0 ≤ i.2 ∧ i.2 ≤ 9007199254740992 ∧ countF base (bl s) 0 = countF base ((bl s).drop i.1) i.2) (fun i => s.size - i.1) (fun _ => μ) (fun i => [(11, .int .i64 i.1), (10, .int .i64 s.size), (6, .int .i64 i.2), (1, .int .i64 base), (0, .string s)]) (fun _ => []) (0, 0) ⟨by simp, by simp, by simp, by simp⟩ (fun a w hs => hs.sub PU (by repeat first | exact List.Sublist.refl _ | exact List.nil_sublist _ | refine List.Sublist.cons _ ?_)) ?_
  rintro ⟨i, n⟩ ⟨hi, hn0, hn1, hc⟩
  dsimp only at hi hn0 hn1 hc ⊢
  by_cases hlt : i < s.size
  · obtain ⟨b, hb1, hb2⟩ := bl_at hlt
    have h1 := bAt_lo s i
    have h2 := bAt_hi s i
    have h3 := digitF_lo h1
    have h4 := digitF_hi (c := bAt s i)
    rw [drop_cons hb1, countF, ← hb2] at hc
    have hk : 0 ≤ n * base ∧ n * base ≤ 9223372036854775707 := by rcases hb with rfl | rfl <;> omega
    repeat' (first | refine KO ?_ | ((with_reducible apply C1); exact rfl; exact EN; exact fun w μc hw hse => digit_spec _ (by omega) w μc hw) | refine KI ?_ | ((refine KB ?_ ?_ <;> intro hp)) | refine KG ?_ | fail)
    · rw [if_pos (by omega)] at hc
      exact ret_s2 rfl rfl rfl (by simp [count2, hc]) (by simp [count2, hc])
    · rw [if_neg (by omega), if_pos (by omega)] at hc
      exact ret_s2 rfl rfl rfl (by simp [count2, hc]) (by simp [count2, hc])
    · rw [if_neg (by omega), if_neg (by omega)] at hc
      exact gq_back (i + 1, n * base + digitF (bAt s i)) ⟨by dsimp only; omega, by dsimp only; omega, by dsimp only; omega, hc⟩ (by dsimp only; omega) rfl PU (by repeat first | exact List.Sublist.refl _ | exact List.nil_sublist _ | refine List.Sublist.cons _ ?_)
  · have hi' : i = s.size := by omega
    have hd : (bl s).drop i = [] := List.drop_of_length_le (by rw [bl_len]; omega)
    rw [hd, countF] at hc
    repeat' (first | refine KK ?_ | ((refine KB ?_ ?_ <;> intro hp)) | refine KG ?_ | fail)
    refine ret_s2 rfl rfl rfl ?_ ?_
    · simp [count2, hc]
    · rw [ne_bl]; simp [count2, hc]
theorem hasPre_spec (s p : ByteArray) (hs : s.size ≤ 9223372036854775807) (hp' : p.size ≤ 9223372036854775807) (w : World) (μ : Mem) (hμ : MOk μ w) :
    Calls Tryz.prog 86 #[.string s, .string p] w fun e w' => e = .returned (.bool (decide ((bl s).take p.size = bl p))) ∧ Below w.heap.size w w' := by
  refine call_intro Tryz.func86 rfl Tryz.ntmps86 (by simp) hμ ?_
  repeat' (first | refine KO ?_ | (refine KV (b := by first | ((with_reducible apply v_str_hi p.size); exact rfl; exact rfl; exact rfl; exact rfl; omega)) (c := ?_)) | refine KI ?_ | ((refine KB ?_ ?_ <;> intro hp)) | refine KG ?_ | fail)
  · refine ret_s rfl rfl ?_
    congr 2
    apply propext
    constructor
    · intro h
      have := congrArg bl h
      rw [bl_extract] at this
      simpa using this
    · intro h
      apply bl_inj
      rw [bl_extract]
      simpa using h
  · refine ret_s rfl rfl ?_
    have : ¬ (bl s).take p.size = bl p := fun h => by
      have := congrArg List.length h
      rw [List.length_take, bl_len, bl_len] at this
      omega
    simp [this]
theorem hasPrefix_spec (s p : ByteArray) (hs : s.size ≤ 9223372036854775807) (hp' : p.size ≤ 9223372036854775807) (w : World) (μ : Mem) (hμ : MOk μ w) :
    Calls Tryz.prog 68 #[.string s, .string p] w fun e w' => e = .returned (.bool (decide ((bl s).take p.size = bl p))) ∧ Below w.heap.size w w' := by
  refine call_intro Tryz.func68 rfl Tryz.ntmps68 (by simp) hμ ?_
  repeat' (first | refine KO ?_ | ((with_reducible apply C1); exact rfl; exact EN; exact fun w μc hw hse => hasPre_spec s p hs hp' w μc hw) | refine KI ?_ | ((refine KB ?_ ?_ <;> intro hp)) | refine KG ?_ | fail)
  exact ret_s rfl rfl rfl
end Go.Proofs.YtmihpkdhfomcgaaGreatDoor
namespace Go.Proofs.YtmihpkdhfomcgaaGreatDoor
open Go.RowKit Go.Vcg
def cutB : List UInt8 := [9, 10, 13, 32]
def numOr (r : Int × Bool) (sign : Int) : V := if r.2 then ofF (sign * r.1) else nanV
def readT (t : List UInt8) : V :=
  if t = [] then ofF 0 else if t.take 2 = [48, 120] ∨ t.take 2 = [48, 88] then numOr (count2 16 (t.drop 2)) 1
  else numOr (count2 10 (if t.head? = some 45 ∨ t.head? = some 43 then t.drop 1 else t)) (if t.head? = some 45 then -1 else 1)
def readF (l : List UInt8) : V := readT (Lib.trimS l cutB)
theorem trim_len (l : List UInt8) : (Lib.trimS l cutB).length ≤ l.length := by
  unfold Lib.trimS Lib.trimLeftS Lib.trimRightS
  have h1 := (List.dropWhile_sublist (cutB.contains ·) (l := List.reverse (List.dropWhile (cutB.contains ·) l.reverse))).length_le
  have h2 := (List.dropWhile_sublist (cutB.contains ·) (l := l.reverse)).length_le
  simp only [List.length_reverse] at h1 h2
  omega
theorem count2_lo (base : Int) (l : List UInt8) (hb : base = 10 ∨ base = 16) : 0 ≤ (count2 base l).1 ∧ (count2 base l).1 ≤ 9007199254740992 := by
  have key : ∀ (l : List UInt8) (n : Int), 0 ≤ n → n ≤ 9007199254740992 → ∀ m, countF base l n = some m → 0 ≤ m ∧ m ≤ 9007199254740992 := by
    intro l
    induction l with
    | nil => intro n h0 h1 m h; simp only [countF, Option.some.injEq] at h; omega
    | cons b l ih =>
      intro n h0 h1 m h
      rw [countF] at h
      split at h
      · cases h
      · split at h
        · cases h
        · have := digitF_lo (c := b.toNat) (by omega)
          refine ih _ ?_ ?_ m h
          · rcases hb with rfl | rfl <;> omega
          · omega
  unfold count2
  split
  · rename_i n h; exact key l 0 (by omega) (by omega) n h
  · simp
attribute [local irreducible] G GC GQ GA GAop Calls IntKind.wrap Int.decLt Int.decLe
theorem trim_spec (s : ByteArray) (hs : s.size ≤ 9223372036854775807) (w : World) :
    Calls Tryz.prog 67 #[.string s, .string ⟨#[9, 10, 13, 32]⟩] w fun e w' => e = .returned (.string ⟨(Lib.trimS (bl s) cutB).toArray⟩) ∧ Below w.heap.size w w' :=
  Any.strings_Trim_laid Tryz.lays160 (by kernel_rfl) s ⟨#[9, 10, 13, 32]⟩ w hs (by decide) (ascii_of_all (by decide))
theorem numOr_t {r : Int × Bool} {sign : Int} (h : r.2 = true) : numOr r sign = ofF (sign * r.1) := by unfold numOr; rw [if_pos h]
theorem numOr_f {r : Int × Bool} {sign : Int} (h : r.2 = false) : numOr r sign = nanV := by unfold numOr; rw [if_neg (by simp [h])]
theorem head_at {s : ByteArray} {b : UInt8} (h : 0 < s.size) : (bl s).head? = some b ↔ bAt s 0 = b.toNat := by
  obtain ⟨c, h1, h2⟩ := bl_at h
  rw [List.head?_eq_getElem?, h1, h2]
  constructor
  · intro e; cases e; rfl
  · intro e
    have : c = b := UInt8.toNat_inj.1 (by omega)
    rw [this]
theorem read_spec (s : ByteArray) (hs : s.size ≤ 9223372036854775807) (w : World) (μ : Mem) (hμ : MOk μ w) :
    Calls Tryz.prog 49 #[.string s] w fun e w' => e = .returned (.agg (encV (readF (bl s))).toArray) ∧ Below w.heap.size w w' := by
  refine call_intro Tryz.func49 rfl Tryz.ntmps49 (by simp) hμ ?_
  unfold readF
  have hl := trim_len (bl s)
  rw [bl_len] at hl
  generalize ht : (⟨(Lib.trimS (bl s) cutB).toArray⟩ : ByteArray) = t
  have hbt : Lib.trimS (bl s) cutB = bl t := by rw [← ht]
  have htl : t.size ≤ 9223372036854775807 := by rw [← bl_len, ← hbt]; omega
  rw [hbt]
  have htrim : ∀ w, Calls Tryz.prog 67 #[.string s, .string ⟨#[9, 10, 13, 32]⟩] w fun e w' => e = .returned (.string t) ∧ Below w.heap.size w w' := fun w => by
    have := trim_spec s hs w
    rw [ht] at this
    exact this
  clear ht hbt hl
  by_cases h0 : t = ⟨#[]⟩
  · subst h0
    have hr : readT (bl ⟨#[]⟩) = ofF 0 := by unfold readT; exact if_pos rfl
    rw [hr]
    repeat' (first | refine KO ?_ | ((with_reducible apply F1 67); exact rfl; exact EN; exact fun w μc hw hse => htrim w) | ((with_reducible apply F1 41); exact rfl; exact EN; exact fun w μc hw hse => of_spec _ w μc hw) | ((with_reducible apply F1 62); exact rfl; exact EN; exact fun w μc hw hse => none_spec w μc hw) | ((with_reducible apply F1 68); exact rfl; exact EN; exact fun w μc hw hse => hasPrefix_spec t _ htl (by decide) w μc hw) | refine KI ?_ | refine NB fun b => ?_ | ((refine KB ?_ ?_ <;> intro hp)) | refine KG ?_ | fail)
    exact ret_v1 rfl (rv_agg 0 rfl rfl rfl rfl rfl (by repeat first | exact lc_nil | refine lc_cons rfl ?_)) rfl
  · have h0' : bl t ≠ [] := fun h => h0 ((bl_empty_iff t).2 h)
    have hpos : 0 < t.size := by
      rw [← bl_len]
      exact List.length_pos_iff.2 h0'
    by_cases h16 : (bl t).take 2 = [48, 120] ∨ (bl t).take 2 = [48, 88]
    · have h2 : 2 ≤ t.size := by
        have : ((bl t).take 2).length = 2 := by rcases h16 with h | h <;> rw [h] <;> rfl
        rw [List.length_take, bl_len] at this
        omega
      have hr : readT (bl t) = numOr (count2 16 ((bl t).drop 2)) 1 := by unfold readT; rw [if_neg h0', if_pos h16]
      rw [hr]
      have hu : bl (t.extract 2 t.size) = (bl t).drop 2 := by
        rw [bl_extract]
        exact List.take_of_length_le (by rw [List.length_drop, bl_len]; omega)
      have hus : (t.extract 2 t.size).size ≤ 9223372036854775807 := by rw [← bl_len, hu, List.length_drop, bl_len]; omega
      have hcnt : ∀ (w : World) (μ : Mem), MOk μ w → Calls Tryz.prog 69 #[.string (t.extract 2 t.size), .int .i64 16] w fun e w' => e = .returned (.tuple #[.int .i64 (count2 16 ((bl t).drop 2)).1, .bool (count2 16 ((bl t).drop 2)).2]) ∧ Below w.heap.size w w' := fun w μ hμ => by
        have := count_spec (t.extract 2 t.size) 16 (.inr rfl) hus w μ hμ
        rw [hu] at this
        exact this
      generalize count2 16 ((bl t).drop 2) = r at hcnt
      have q : ((bl t).take (ByteArray.size ⟨#[48, 120]⟩) = bl ⟨#[48, 120]⟩) ∨ (¬ (bl t).take (ByteArray.size ⟨#[48, 120]⟩) = bl ⟨#[48, 120]⟩ ∧ (bl t).take (ByteArray.size ⟨#[48, 88]⟩) = bl ⟨#[48, 88]⟩) := by
        by_cases h : (bl t).take 2 = [48, 120]
        · exact .inl h
        · exact .inr ⟨h, h16.resolve_left h⟩
      rcases q with q | ⟨q, q'⟩
      all_goals repeat' (first | refine KO ?_ | ((with_reducible apply F1 67); exact rfl; exact EN; exact fun w μc hw hse => htrim w) | ((with_reducible apply F1 41); exact rfl; exact EN; exact fun w μc hw hse => of_spec _ w μc hw) | ((with_reducible apply F1 62); exact rfl; exact EN; exact fun w μc hw hse => none_spec w μc hw) | ((with_reducible apply F1 68); exact rfl; exact EN; exact fun w μc hw hse => hasPrefix_spec t _ htl (by decide) w μc hw) | ((with_reducible apply F1 69); exact rfl; exact EN; exact fun w μc hw hse => hcnt w μc hw) | (refine KV (b := by first | ((with_reducible apply v_str_lo 2); exact rfl; exact rfl; exact rfl; exact rfl; omega)) (c := ?_)) | refine KI ?_ | refine NB fun b => ?_ | ((refine KB ?_ ?_ <;> intro hp)) | refine KG ?_ | fail)
      all_goals first
        | (rw [numOr_t (by assumption), Int.one_mul]; exact ret_v1 rfl (rv_agg 0 rfl rfl rfl rfl rfl (by repeat first | exact lc_nil | refine lc_cons rfl ?_)) rfl)
        | (rw [numOr_f (by assumption)]; exact ret_v1 rfl (rv_agg 0 rfl rfl rfl rfl rfl (by repeat first | exact lc_nil | refine lc_cons rfl ?_)) rfl)
    · have hr : readT (bl t) = numOr (count2 10 (if (bl t).head? = some 45 ∨ (bl t).head? = some 43 then (bl t).drop 1 else bl t)) (if (bl t).head? = some 45 then -1 else 1) := by unfold readT; rw [if_neg h0', if_neg h16]
      rw [hr]
      have hh := head_at (s := t) (b := 45) hpos
      have hh' := head_at (s := t) (b := 43) hpos
      simp only [hh, hh']
      rw [show (45 : UInt8).toNat = 45 from rfl, show (43 : UInt8).toNat = 43 from rfl]
      clear hr hh hh'
      have hu : bl (t.extract 1 t.size) = (bl t).drop 1 := by
        rw [bl_extract]
        exact List.take_of_length_le (by rw [List.length_drop, bl_len]; omega)
      have hus : (t.extract 1 t.size).size ≤ 9223372036854775807 := by rw [← bl_len, hu, List.length_drop, bl_len]; omega
      have hcnt : ∀ (w : World) (μ : Mem), MOk μ w → Calls Tryz.prog 69 #[.string (t.extract 1 t.size), .int .i64 10] w fun e w' => e = .returned (.tuple #[.int .i64 (count2 10 ((bl t).drop 1)).1, .bool (count2 10 ((bl t).drop 1)).2]) ∧ Below w.heap.size w w' := fun w μ hμ => by
        have := count_spec (t.extract 1 t.size) 10 (.inl rfl) hus w μ hμ
        rw [hu] at this
        exact this
      have c1 := count2_lo 10 ((bl t).drop 1) (.inl rfl)
      have c2 := count2_lo 10 (bl t) (.inl rfl)
      have hb0 := bAt_lo t 0
      have n1 : ¬ (bl t).take (ByteArray.size ⟨#[48, 120]⟩) = bl ⟨#[48, 120]⟩ := fun h => h16 (.inl h)
      have n2 : ¬ (bl t).take (ByteArray.size ⟨#[48, 88]⟩) = bl ⟨#[48, 88]⟩ := fun h => h16 (.inr h)
      repeat' (first | refine KO ?_ | ((with_reducible apply F1 67); exact rfl; exact EN; exact fun w μc hw hse => htrim w) | ((with_reducible apply F1 41); exact rfl; exact EN; exact fun w μc hw hse => of_spec _ w μc hw) | ((with_reducible apply F1 62); exact rfl; exact EN; exact fun w μc hw hse => none_spec w μc hw) | ((with_reducible apply F1 68); exact rfl; exact EN; exact fun w μc hw hse => hasPrefix_spec t _ htl (by decide) w μc hw) | ((with_reducible apply F1 69); exact rfl; exact EN; exact fun w μc hw hse => hcnt w μc hw) | ((with_reducible apply F1 69); exact rfl; exact EN; exact fun w μc hw hse => count_spec t 10 (.inl rfl) htl w μc hw) | (refine KV (b := by first | exact U2 0 | ((with_reducible apply v_str_lo 1); exact rfl; exact rfl; exact rfl; exact rfl; omega)) (c := ?_)) | refine KI ?_ | refine NB fun b => ?_ | ((refine KB ?_ ?_ <;> intro hp)) | refine KG ?_ | fail)
      all_goals first | rw [if_pos (by omega)] | rw [if_neg (by omega)]
      all_goals first | rw [if_pos (by omega)] | rw [if_neg (by omega)]
      all_goals first
        | (rw [numOr_t (by assumption)]; exact ret_v1 rfl (rv_agg 0 rfl rfl rfl rfl rfl (by repeat first | exact lc_nil | refine lc_cons rfl ?_)) rfl)
        | (rw [numOr_f (by assumption)]; exact ret_v1 rfl (rv_agg 0 rfl rfl rfl rfl rfl (by repeat first | exact lc_nil | refine lc_cons rfl ?_)) rfl)
end Go.Proofs.YtmihpkdhfomcgaaGreatDoor
namespace Go.Proofs.YtmihpkdhfomcgaaGreatDoor
open Go.RowKit Go.Vcg
def blankF (c : Int) : Bool := decide (c = 9) || decide (c = 10) || decide (c = 13) || decide (c = 32)
theorem blank_cut (b : UInt8) : blankF b.toNat = cutB.contains b := by
  have h : ∀ k : UInt8, ((b.toNat : Int) = (k.toNat : Int)) ↔ b = k := fun k => by
    constructor
    · intro e; exact UInt8.toNat_inj.1 (by omega)
    · rintro rfl; rfl
  have h9 := h 9; have h10 := h 10; have h13 := h 13; have h32 := h 32
  rw [show ((9 : UInt8).toNat : Int) = 9 from rfl] at h9
  rw [show ((10 : UInt8).toNat : Int) = 10 from rfl] at h10
  rw [show ((13 : UInt8).toNat : Int) = 13 from rfl] at h13
  rw [show ((32 : UInt8).toNat : Int) = 32 from rfl] at h32
  rw [Bool.eq_iff_iff]
  simp [blankF, cutB, h9, h10, h13, h32, or_assoc]
def worthF (base : Int) (c : Int) : Int := if digitF c ≥ base then -1 else digitF c
def rcountF (base : Int) : List UInt8 → Int → Option Int
  | [], n => some n
  | b :: r, n => if worthF base b.toNat < 0 then none else
    if (if n ≥ 0 then n * base + worthF base b.toNat else n) > 9007199254740992 then rcountF base r (-1) else rcountF base r (if n ≥ 0 then n * base + worthF base b.toNat else n)
def rcount2 (base : Int) (l : List UInt8) : Int × Bool := match rcountF base l 0 with
  | some n => (n, decide (l ≠ []))
  | none => (0, false)
attribute [local irreducible] G GC GQ GA GAop Calls IntKind.wrap Int.decLt Int.decLe
section
variable (w : World) (μ : Mem) (hμ : MOk μ w)
include hμ
theorem worth_spec (c base : Int) (hc : 0 ≤ c ∧ c ≤ 255) (hb : base = 10 ∨ base = 16) : Calls Tryz.prog 70 #[.int .u8 c, .int .i64 base] w fun e w' => e = .returned (.int .i64 (worthF base c)) ∧ Below w.heap.size w w' := by
  refine call_intro Tryz.func70 rfl Tryz.ntmps70 (by simp) hμ ?_
  have hd : (48 ≤ c ∧ c ≤ 57 → digitF c = c - 48) ∧ (97 ≤ c ∧ c ≤ 102 → digitF c = c - 97 + 10) ∧ (65 ≤ c ∧ c ≤ 70 → digitF c = c - 65 + 10) ∧ (¬ (48 ≤ c ∧ c ≤ 57) ∧ ¬ (97 ≤ c ∧ c ≤ 102) ∧ ¬ (65 ≤ c ∧ c ≤ 70) → digitF c = 99) := by
    unfold digitF
    refine ⟨fun h => ?_, fun h => ?_, fun h => ?_, fun h => ?_⟩ <;> (repeat' split) <;> omega
  have hw1 : digitF c ≥ base → worthF base c = -1 := fun h => by unfold worthF; rw [if_pos h]
  have hw2 : ¬ digitF c ≥ base → worthF base c = digitF c := fun h => by unfold worthF; rw [if_neg h]
  repeat' (first | refine KK ?_ | ((refine KB ?_ ?_ <;> intro hp)) | refine KG ?_ | fail)
  all_goals refine ret_s rfl rfl ?_
  all_goals congr 1
  all_goals omega
theorem refCount_spec (s : ByteArray) (base : Int) (hb : base = 10 ∨ base = 16) (hs : s.size ≤ 9223372036854775807) :
    Calls Tryz.prog 51 #[.string s, .int .i64 base] w fun e w' => e = .returned (.tuple #[.int .i64 (rcount2 base (bl s)).1, .bool (rcount2 base (bl s)).2]) ∧ Below w.heap.size w w' := by
  refine call_intro Tryz.func51 rfl Tryz.ntmps51 (by simp) hμ ?_
  repeat' (first | refine KK ?_ | ((refine KB ?_ ?_ <;> intro hp)) | refine KG ?_ | fail)
  refine gc_loop (ι := Nat × Int) (fun i => i.1 ≤ s.size ∧ -1 ≤ i.2 ∧ i.2 ≤ 9007199254740992 ∧ rcountF base (bl s) 0 = rcountF base ((bl s).drop i.1) i.2) (fun i => s.size - i.1) (fun _ => μ) (fun i => [(7, .int .i64 i.1), (6, .int .i64 i.2), (1, .int .i64 base), (0, .string s)]) (fun _ => []) (0, 0) ⟨by simp, by simp, by simp, by simp⟩ (fun a w hs => hs.sub PU (by repeat first | exact List.Sublist.refl _ | exact List.nil_sublist _ | refine List.Sublist.cons _ ?_)) ?_
  rintro ⟨i, n⟩ ⟨hi, hn0, hn1, hc⟩
  dsimp only at hi hn0 hn1 hc ⊢
  by_cases hlt : i < s.size
  · obtain ⟨b, hb1, hb2⟩ := bl_at hlt
    have h1 := bAt_lo s i
    have h2 := bAt_hi s i
    have h3 := digitF_lo h1
    have h4 := digitF_hi (c := bAt s i)
    rw [drop_cons hb1, rcountF, ← hb2] at hc
    have h5 : -1 ≤ worthF base (bAt s i) ∧ worthF base (bAt s i) ≤ 99 := by unfold worthF; split <;> omega
    have hk : -16 ≤ n * base ∧ n * base ≤ 9223372036854775707 := by rcases hb with rfl | rfl <;> omega
    have hk2 : 0 ≤ n → 0 ≤ n * base := fun h => by rcases hb with rfl | rfl <;> omega
    repeat' (first | refine KO ?_ | ((with_reducible apply C1); exact rfl; exact EN; exact fun w μc hw hse => worth_spec w μc hw _ base (by omega) hb) | refine KI ?_ | ((refine KB ?_ ?_ <;> intro hp)) | refine KG ?_ | fail)
    · rw [if_pos (by omega)] at hc
      exact ret_s2 rfl rfl rfl (by simp [rcount2, hc]) (by simp [rcount2, hc])
    · rw [if_neg (by omega), if_pos (show n ≥ 0 by omega), if_pos (by omega)] at hc
      exact gq_back (i + 1, -1) ⟨by dsimp only; omega, by dsimp only; omega, by dsimp only; omega, hc⟩ (by dsimp only; omega) rfl PU (by repeat first | exact List.Sublist.refl _ | exact List.nil_sublist _ | refine List.Sublist.cons _ ?_)
    · rw [if_neg (by omega), if_pos (show n ≥ 0 by omega), if_neg (by omega)] at hc
      exact gq_back (i + 1, n * base + worthF base (bAt s i)) ⟨by dsimp only; omega, by dsimp only; omega, by dsimp only; omega, hc⟩ (by dsimp only; omega) rfl PU (by repeat first | exact List.Sublist.refl _ | exact List.nil_sublist _ | refine List.Sublist.cons _ ?_)
    · rw [if_neg (by omega), if_neg (show ¬ n ≥ 0 by omega), if_neg (by omega)] at hc
      exact gq_back (i + 1, n) ⟨by dsimp only; omega, by dsimp only; omega, by dsimp only; omega, hc⟩ (by dsimp only; omega) rfl PU (by repeat first | exact List.Sublist.refl _ | exact List.nil_sublist _ | refine List.Sublist.cons _ ?_)
  · have hi' : i = s.size := by omega
    have hd : (bl s).drop i = [] := List.drop_of_length_le (by rw [bl_len]; omega)
    rw [hd, rcountF] at hc
    repeat' (first | refine KK ?_ | ((refine KB ?_ ?_ <;> intro hp)) | refine KG ?_ | fail)
    refine ret_s2 rfl rfl rfl ?_ ?_
    · simp [rcount2, hc]
    · rw [ne_bl]; simp [rcount2, hc]
end
end Go.Proofs.YtmihpkdhfomcgaaGreatDoor
namespace Go.Proofs.YtmihpkdhfomcgaaGreatDoor
open Go.RowKit Go.Vcg
theorem rc_some (base : Int) (hb : base = 10 ∨ base = 16) : ∀ (l : List UInt8) (n m : Int), 0 ≤ n → countF base l n = some m → rcountF base l n = some m
  | [], n, m, _, h => h
  | b :: l, n, m, h0, h => by
    rw [countF] at h
    split at h
    · cases h
    · rename_i hd
      split at h
      · cases h
      · rename_i hm
        have hlo := digitF_lo (c := b.toNat) (by omega)
        have hw : worthF base b.toNat = digitF b.toNat := by unfold worthF; rw [if_neg hd]
        have hk : 0 ≤ n * base := by rcases hb with rfl | rfl <;> omega
        rw [rcountF, hw, if_neg (by omega), if_pos (show n ≥ 0 by omega), if_neg hm]
        exact rc_some base hb l _ m (by omega) h
theorem take2 {t : List UInt8} {a b : UInt8} : t.take 2 = [a, b] ↔ t[0]? = some a ∧ t[1]? = some b := by
  match t with
  | [] => simp
  | [x] => simp
  | x :: y :: r => simp
attribute [local irreducible] G GC GQ GA GAop Calls IntKind.wrap Int.decLt Int.decLe
end Go.Proofs.YtmihpkdhfomcgaaGreatDoor
namespace Go.Proofs.YtmihpkdhfomcgaaGreatDoor
open Go.RowKit Go.Vcg
attribute [local irreducible] G GC GQ GA GAop Calls IntKind.wrap Int.decLt Int.decLe
end Go.Proofs.YtmihpkdhfomcgaaGreatDoor
namespace Go.Proofs.YtmihpkdhfomcgaaGreatDoor
open Go.RowKit Go.Vcg
def wholeF (v : V) : Bool := decide (v.k = 3) && (decide (v.s = ⟨#[]⟩) && inF v.n)
theorem inF_iff {n : Int} : inF n = true ↔ -9007199254740992 ≤ n ∧ n ≤ 9007199254740992 := by simp [inF]
theorem wholeF_n {v : V} (h : wholeF v = true) : -9007199254740992 ≤ v.n ∧ v.n ≤ 9007199254740992 := by
  unfold wholeF at h
  simp only [Bool.and_eq_true] at h
  exact inF_iff.1 h.2.2
attribute [local irreducible] G GC GQ GA GAop Calls IntKind.wrap Int.decLt Int.decLe
section
variable (w : World) (μ : Mem) (hμ : MOk μ w)
include hμ
theorem whole_spec (v : V) : Calls Tryz.prog 59 #[.agg (encV v).toArray] w fun e w' => e = .returned (.tuple #[.int .i64 v.n, .bool (wholeF v)]) ∧ Below w.heap.size w w' := by
  refine call_intro Tryz.func59 rfl Tryz.ntmps59 (by simp) hμ ?_
  repeat' (first | refine KK ?_ | refine NB fun b => ?_ | ((refine KB ?_ ?_ <;> intro hp)) | refine KG ?_ | fail)
  refine gc_draw 17 _ (by kernel_rfl) rfl (List.Sublist.cons_cons _ (List.nil_sublist _)) ?_
  all_goals refine DD 0 ?_
  all_goals refine DD 1 ?_
  all_goals refine DD 2 ?_
  all_goals refine DD 3 ?_
  all_goals refine DD 4 ?_
  all_goals refine DD 5 ?_
  all_goals (try (refine D7 6 ?_; (repeat' (first | refine KO ?_ | (refine KB ?_ ?_ <;> intro hp)))))
  all_goals refine DD 6 ?_
  all_goals refine DD 7 ?_
  all_goals refine DD 8 ?_
  all_goals refine DD 9 ?_
  all_goals refine DD 10 ?_
  all_goals (try (refine D7 11 ?_; (repeat' (first | refine KO ?_ | (refine KB ?_ ?_ <;> intro hp)))))
  all_goals refine DD 11 ?_
  all_goals refine DD 12 ?_
  all_goals (first | (refine D3 13 ?_; refine D5 ?_; (with_reducible apply C1); exact rfl; exact EN; exact fun w μc hw hse => in_spec v.n w μc hw; refine D9 ?_) | refine D3 13 (D6 ?_))
  all_goals refine DD 14 ?_
  all_goals refine DD 15 ?_
  all_goals refine DD 16 ?_
  all_goals refine D8 ?_
  all_goals repeat' (first | refine KK ?_ | refine NB fun b => ?_ | ((refine KB ?_ ?_ <;> intro hp)) | refine KG ?_ | fail)
  all_goals refine ret_s2 rfl rfl rfl rfl ?_
  all_goals unfold wholeF
  all_goals simp_all
theorem whole_at (v : V) {c : Bool} (h : wholeF v = c) : Calls Tryz.prog 59 #[.agg (encV v).toArray] w fun e w' => e = .returned (.tuple #[.int .i64 v.n, .bool c]) ∧ Below w.heap.size w w' := by
  have := whole_spec w μ hμ v
  rwa [h] at this
end
end Go.Proofs.YtmihpkdhfomcgaaGreatDoor
namespace Go.Proofs.YtmihpkdhfomcgaaGreatDoor
open Go.RowKit Go.Vcg
attribute [local irreducible] G GC GQ GA GAop Calls IntKind.wrap Int.decLt Int.decLe
end Go.Proofs.YtmihpkdhfomcgaaGreatDoor
namespace Go.Proofs.YtmihpkdhfomcgaaGreatDoor
open Go.RowKit Go.Vcg
def tabName : String := ((Rows.outcomeReadsRow.laid[2]?).map (·.1)).getD ""
def TabOk (μ : Mem) : Prop := ∀ w, MOk μ w → Lib.TabIs Tryz.prog w tabName .u64 Lib.pow10Tab
theorem TabOk.mono {μ μ' : Mem} (h : TabOk μ) (hle : MLe μ μ') : TabOk μ' := fun w hw => h w (fun b o e => hw b o (hle b o e))
def nanS : ByteArray := ⟨#[78, 97, 78]⟩
def textF (v : V) : ByteArray := if wholeF v = true then ⟨(Lib.itoa v.n).toArray⟩ else nanS
attribute [local irreducible] G GC GQ GA GAop Calls IntKind.wrap Int.decLt Int.decLe
theorem itoa_spec (n : Int) (hn : -9007199254740992 ≤ n ∧ n ≤ 9007199254740992) (w : World) (ht : Lib.TabIs Tryz.prog w tabName .u64 Lib.pow10Tab) :
    Calls Tryz.prog 60 #[.int .i64 n] w fun e w' => e = .returned (.string ⟨(Lib.itoa n).toArray⟩) ∧ Below w.heap.size w w' :=
  (Any.strconv_Itoa Tryz.laysM171 n (by omega) (by omega) w ht).mono fun e w' ⟨he, k, os, hw⟩ => ⟨he, by rw [hw]; exact Lib.below_grow _ w (Nat.le_refl _) k os⟩
section
variable (w : World) (μ : Mem) (hμ : MOk μ w) (ht : TabOk μ)
include hμ ht
theorem text_spec (v : V) : Calls Tryz.prog 40 #[.agg (encV v).toArray] w fun e w' => e = .returned (.string (textF v)) ∧ Below w.heap.size w w' := by
  refine call_intro Tryz.func40 rfl Tryz.ntmps40 (by simp) hμ ?_
  cases hw : wholeF v
  · have hF : textF v = nanS := by unfold textF; rw [if_neg (by simp [hw])]
    rw [hF]
    repeat' (first | refine KO ?_ | ((with_reducible apply F1 59); exact rfl; exact EN; exact fun w μc hw' hse => whole_at w μc hw' v hw) | refine KI ?_ | refine NB fun b => ?_ | ((refine KB ?_ ?_ <;> intro hp)) | refine KG ?_ | fail)
    exact ret_s rfl rfl rfl
  · have hF : textF v = ⟨(Lib.itoa v.n).toArray⟩ := by unfold textF; rw [if_pos hw]
    rw [hF]
    have hn := wholeF_n hw
    repeat' (first | refine KO ?_ | ((with_reducible apply F1 59); exact rfl; exact EN; exact fun w μc hw' hse => whole_at w μc hw' v hw) | ((with_reducible apply F1 60); exact rfl; exact EN; exact fun w μc hw' hse => itoa_spec v.n hn w ((ht.mono hse.le) w hw')) | refine KI ?_ | refine NB fun b => ?_ | ((refine KB ?_ ?_ <;> intro hp)) | refine KG ?_ | fail)
    exact ret_s rfl rfl rfl
end
end Go.Proofs.YtmihpkdhfomcgaaGreatDoor
namespace Go.Proofs.YtmihpkdhfomcgaaGreatDoor
open Go.RowKit Go.Vcg
theorem digits_len (n : Nat) : (Lib.decDigits n).length ≤ n + 1 := by
  induction n using Nat.strongRecOn with
  | _ n ih =>
    rw [Lib.decDigits]
    split
    · simp
    · have := ih (n / 10) (by omega)
      simp; omega
def tenS : ByteArray := ⟨#[48, 49, 50, 51, 52, 53, 54, 55, 56, 57]⟩
theorem ten_at (k : Nat) (h : k < 10) : tenS.extract k (k + 1) = ⟨#[UInt8.ofNat (48 + k)]⟩ := by
  have : k = 0 ∨ k = 1 ∨ k = 2 ∨ k = 3 ∨ k = 4 ∨ k = 5 ∨ k = 6 ∨ k = 7 ∨ k = 8 ∨ k = 9 := by omega
  rcases this with rfl | rfl | rfl | rfl | rfl | rfl | rfl | rfl | rfl | rfl <;> rfl
theorem append_bytes (a b : List UInt8) : (⟨a.toArray⟩ : ByteArray) ++ (⟨b.toArray⟩ : ByteArray) = ⟨(a ++ b).toArray⟩ := by
  apply bl_inj
  simp [bl, ByteArray.data_append]
attribute [local irreducible] G GC GQ GA GAop Calls IntKind.wrap Int.decLt Int.decLe
section
variable (w : World) (μ : Mem) (hμ : MOk μ w)
include hμ
end
theorem digits_spec (n : Nat) : n ≤ 9007199254740992 → ∀ (w : World) (μ : Mem), MOk μ w → Calls Tryz.prog 52 #[.int .i64 n] w fun e w' => e = .returned (.string ⟨(Lib.decDigits n).toArray⟩) ∧ Below w.heap.size w w' := by
  induction n using Nat.strongRecOn with
  | _ n ih =>
    intro hn w μ hμ
    refine call_intro Tryz.func52 rfl Tryz.ntmps52 (by simp) hμ ?_
    by_cases h10 : n < 10
    · have hF : (⟨(Lib.decDigits n).toArray⟩ : ByteArray) = tenS.extract n (n + 1) := by rw [ten_at n h10, Lib.decDigits, dif_pos h10]
      rw [hF]
      have hts : tenS.size = 10 := rfl
      repeat' (first | refine KO ?_ | (refine KV (b := by first | ((with_reducible apply v_str_both (b := tenS) n (n + 1)); exact rfl; exact rfl; exact rfl; exact rfl; exact rfl; (first | exact rfl | omega); omega; omega)) (c := ?_)) | refine KI ?_ | ((refine KB ?_ ?_ <;> intro hp)) | refine KG ?_ | fail)
      exact ret_s rfl rfl rfl
    · have hF : (⟨(Lib.decDigits n).toArray⟩ : ByteArray) = (⟨(Lib.decDigits (n / 10)).toArray⟩ : ByteArray) ++ tenS.extract (n % 10) (n % 10 + 1) := by
        rw [ten_at (n % 10) (by omega), Lib.decDigits, dif_neg h10, ← append_bytes]
      rw [hF]
      have hts : tenS.size = 10 := rfl
      have hl := digits_len (n / 10)
      have hsz : (⟨(Lib.decDigits (n / 10)).toArray⟩ : ByteArray).size + (tenS.extract (n % 10) (n % 10 + 1)).size ≤ 9223372036854775807 := by
        have h1 : (⟨(Lib.decDigits (n / 10)).toArray⟩ : ByteArray).size = (Lib.decDigits (n / 10)).length := by simp [ByteArray.size]
        rw [h1, ten_at (n % 10) (by omega)]
        have h2 : (⟨#[UInt8.ofNat (48 + n % 10)]⟩ : ByteArray).size = 1 := rfl
        omega
      have hq : (n : Int).tdiv 10 = ((n / 10 : Nat) : Int) := rfl
      have hr : (n : Int).tmod 10 = ((n % 10 : Nat) : Int) := rfl
      have hqb : -9223372036854775808 ≤ (n : Int).tdiv 10 ∧ (n : Int).tdiv 10 ≤ 9223372036854775807 := by rw [hq]; omega
      repeat' (first | refine KK ?_ | ((refine KB ?_ ?_ <;> intro hp)) | refine KG ?_ | fail)
      refine gc_draw 12 (_) (by kernel_rfl) rfl (by first | exact List.Sublist.refl _ | simp) ?_
      all_goals refine DD 0 ?_
      all_goals (first | refine D1 1 ?_ | (refine DV (k := 1) (b := by first | ((with_reducible apply v_str_both (b := tenS) (n % 10) (n % 10 + 1)); exact rfl; exact rfl; exact rfl; exact hr; exact rfl; (rw [hr]; rfl); omega; omega) | ((with_reducible apply v_sadd); exact rfl; exact rfl; exact hsz)) (c := ?_)) | refine DD 1 ?_ | fail)
      all_goals refine DD 3 ?_
      all_goals refine DD 4 ?_
      all_goals (first | refine D1 5 ?_ | (refine DV (k := 5) (b := by first | ((with_reducible apply v_str_both (b := tenS) (n % 10) (n % 10 + 1)); exact rfl; exact rfl; exact rfl; exact hr; exact rfl; (rw [hr]; rfl); omega; omega) | ((with_reducible apply v_sadd); exact rfl; exact rfl; exact hsz)) (c := ?_)) | refine DD 5 ?_ | fail)
      all_goals refine DD 6 ?_
      all_goals (first | refine D1 7 ?_ | (refine DV (k := 7) (b := by first | ((with_reducible apply v_str_both (b := tenS) (n % 10) (n % 10 + 1)); exact rfl; exact rfl; exact rfl; exact hr; exact rfl; (rw [hr]; rfl); omega; omega) | ((with_reducible apply v_sadd); exact rfl; exact rfl; exact hsz)) (c := ?_)) | refine DD 7 ?_ | fail)
      all_goals (first | refine D1 8 ?_ | (refine DV (k := 8) (b := by first | ((with_reducible apply v_str_both (b := tenS) (n % 10) (n % 10 + 1)); exact rfl; exact rfl; exact rfl; exact hr; exact rfl; (rw [hr]; rfl); omega; omega) | ((with_reducible apply v_sadd); exact rfl; exact rfl; exact hsz)) (c := ?_)) | refine DD 8 ?_ | fail)
      all_goals (first | refine D1 9 ?_ | (refine DV (k := 9) (b := by first | ((with_reducible apply v_str_both (b := tenS) (n % 10) (n % 10 + 1)); exact rfl; exact rfl; exact rfl; exact hr; exact rfl; (rw [hr]; rfl); omega; omega) | ((with_reducible apply v_sadd); exact rfl; exact rfl; exact hsz)) (c := ?_)) | refine DD 9 ?_ | fail)
      all_goals (first | (refine D3 2 ?_; refine D5 ?_; (with_reducible apply C1); exact rfl; exact EN; exact fun w μc hw hse => ih (n / 10) (by omega) (by omega) w μc hw; refine D9 ?_))
      all_goals (first | refine D1 10 ?_ | (refine DV (k := 10) (b := by first | ((with_reducible apply v_str_both (b := tenS) (n % 10) (n % 10 + 1)); exact rfl; exact rfl; exact rfl; exact hr; exact rfl; (rw [hr]; rfl); omega; omega) | ((with_reducible apply v_sadd); exact rfl; exact rfl; exact hsz)) (c := ?_)) | refine DD 10 ?_ | fail)
      all_goals refine DD 11 ?_
      all_goals refine D8 ?_
      repeat' (first | refine KK ?_ | ((refine KB ?_ ?_ <;> intro hp)) | refine KG ?_ | fail)
      exact ret_s rfl rfl rfl
end Go.Proofs.YtmihpkdhfomcgaaGreatDoor
namespace Go.Proofs.YtmihpkdhfomcgaaGreatDoor
open Go.RowKit Go.Vcg
theorem count_append (base : Int) : ∀ (l : List UInt8) (b : UInt8) (n : Int), countF base (l ++ [b]) n = match countF base l n with
    | none => none
    | some k => if digitF b.toNat ≥ base then none else if k * base + digitF b.toNat > 9007199254740992 then none else some (k * base + digitF b.toNat)
  | [], b, n => by simp [countF]
  | a :: l, b, n => by
    rw [List.cons_append, countF, countF]
    split
    · rfl
    · split
      · rfl
      · exact count_append base l b _
theorem digit_byte {k : Nat} (h : k < 10) : ((UInt8.ofNat (48 + k)).toNat : Int) = 48 + k := by
  have : (UInt8.ofNat (48 + k)).toNat = 48 + k := by
    rw [UInt8.toNat_ofNat']
    exact Nat.mod_eq_of_lt (by omega)
  omega
theorem digitF_digit {k : Nat} (h : k < 10) : digitF ((UInt8.ofNat (48 + k)).toNat : Int) = k := by
  rw [digit_byte h]
  unfold digitF
  rw [if_pos (by omega)]
  omega
theorem count_digits (m : Nat) : m ≤ 9007199254740992 → countF 10 (Lib.decDigits m) 0 = some (m : Int) := by
  induction m using Nat.strongRecOn with
  | _ m ih =>
    intro hm
    rw [Lib.decDigits]
    split
    · rename_i h
      rw [countF, digitF_digit h, if_neg (by omega), if_neg (by omega), countF]
      congr 1; omega
    · rename_i h
      have h10 : m % 10 < 10 := by omega
      rw [count_append, ih (m / 10) (by omega) (by omega)]
      simp only [digitF_digit h10]
      rw [if_neg (by omega), if_neg (by omega)]
      congr 1; omega
theorem digits_mem (m : Nat) : ∀ b ∈ Lib.decDigits m, 48 ≤ b.toNat ∧ b.toNat ≤ 57 := by
  induction m using Nat.strongRecOn with
  | _ m ih =>
    intro b hb
    rw [Lib.decDigits] at hb
    split at hb
    · rename_i h
      simp only [List.mem_singleton] at hb
      have := digit_byte h
      rw [hb]; omega
    · rcases List.mem_append.1 hb with hb | hb
      · exact ih (m / 10) (by omega) b hb
      · simp only [List.mem_singleton] at hb
        have := digit_byte (k := m % 10) (by omega)
        rw [hb]; omega
theorem digits_ne (m : Nat) : Lib.decDigits m ≠ [] := by
  rw [Lib.decDigits]
  split <;> simp
theorem drop_none {p : UInt8 → Bool} : ∀ {l : List UInt8}, (∀ b ∈ l, p b = false) → l.dropWhile p = l
  | [], _ => rfl
  | a :: l, h => List.dropWhile_cons_of_neg (by rw [h a (by simp)]; decide)
theorem trim_none {l : List UInt8} (h : ∀ b ∈ l, cutB.contains b = false) : Lib.trimS l cutB = l := by
  unfold Lib.trimS Lib.trimLeftS Lib.trimRightS
  rw [drop_none (p := (cutB.contains ·)) (l := l.reverse) (fun b hb => h b (List.mem_reverse.1 hb)), List.reverse_reverse, drop_none h]
theorem cut_of {b : UInt8} (h : 45 = b.toNat ∨ 48 ≤ b.toNat ∧ b.toNat ≤ 57) : cutB.contains b = false := by
  rw [← blank_cut]
  unfold blankF
  simp
  omega
theorem numOr_mk (l : List UInt8) (m : Nat) (s : Int) (hl : l ≠ []) (h : countF 10 l 0 = some (m : Int)) : numOr (count2 10 l) s = ofF (s * m) := by
  have e1 : count2 10 l = ((m : Int), true) := by unfold count2; rw [h]; simp [hl]
  rw [e1]; rfl
theorem read_itoa (n : Int) (hn : -9007199254740992 ≤ n ∧ n ≤ 9007199254740992) : readF (Lib.itoa n) = ofF n := by
  unfold readF Lib.itoa
  split
  · rename_i h0
    have hm := digits_mem n.natAbs
    rw [trim_none (fun b hb => by
      rcases List.mem_cons.1 hb with rfl | hb
      · exact cut_of (.inl rfl)
      · exact cut_of (.inr (hm b hb)))]
    unfold readT
    rw [if_neg (by simp), if_neg (by intro h; rcases h with h | h <;> simp at h), if_pos (.inl rfl), if_pos (show (45 :: Lib.decDigits n.natAbs).head? = some 45 from rfl)]
    rw [List.drop_one, List.tail_cons, numOr_mk _ _ _ (digits_ne _) (count_digits _ (by omega))]
    congr 1; omega
  · rename_i h0
    have hm := digits_mem n.toNat
    have hne := digits_ne n.toNat
    have hc := count_digits n.toNat (by omega)
    rw [trim_none (fun b hb => cut_of (.inr (hm b hb)))]
    generalize Lib.decDigits n.toNat = l at *
    unfold readT
    have hhd : ∀ c : UInt8, (c.toNat < 48 ∨ 57 < c.toNat) → l.head? ≠ some c := fun c hcc h => by
      have := hm c (List.mem_of_head? h)
      omega
    rw [if_neg hne, if_neg (by
      rw [take2, take2]
      rintro (⟨_, h⟩ | ⟨_, h⟩)
      · have := hm _ (List.mem_of_getElem? h)
        revert this; decide
      · have := hm _ (List.mem_of_getElem? h)
        revert this; decide)]
    rw [if_neg (fun h => by rcases h with h | h; exact hhd 45 (by decide) h; exact hhd 43 (by decide) h), if_neg (hhd 45 (by decide)), numOr_mk _ _ _ hne hc]
    congr 1; omega
end Go.Proofs.YtmihpkdhfomcgaaGreatDoor
namespace Go.Proofs.YtmihpkdhfomcgaaGreatDoor
open Go.RowKit Go.Vcg
theorem ten_pos (k : Nat) : (1 : Int) ≤ 10 ^ k := by
  have h : (0 : Int) < 10 ^ k := Int.pow_pos (by decide)
  exact h
theorem ten_le {k : Nat} (h : k ≤ 10) : (10 : Int) ^ k ≤ 10000000000 := by
  have h1 : (10 : Nat) ^ k ≤ 10 ^ 10 := Nat.pow_le_pow_right (by decide) h
  have h2 : ((10 ^ k : Nat) : Int) = (10 : Int) ^ k := by simp
  rw [← h2]
  exact Int.ofNat_le.2 h1
theorem count_short : ∀ (l : List UInt8) (n : Int), 0 ≤ n → (n + 1) * 10 ^ l.length ≤ 9007199254740992 → rcountF 10 l n = countF 10 l n
  | [], n, _, _ => rfl
  | b :: l, n, h0, h => by
    have hlo := digitF_lo (c := b.toNat) (by omega)
    rw [rcountF, countF]
    by_cases hd : digitF b.toNat ≥ 10
    · have hw : worthF 10 b.toNat = -1 := by unfold worthF; rw [if_pos hd]
      rw [hw, if_pos (by omega), if_pos hd]
    · have hw : worthF 10 b.toNat = digitF b.toNat := by unfold worthF; rw [if_neg hd]
      have hp : (1 : Int) ≤ 10 ^ l.length := ten_pos _
      have h1 : (n + 1) * 10 ^ (b :: l).length = ((n + 1) * 10) * 10 ^ l.length := by rw [List.length_cons, Int.pow_succ, Int.mul_comm (10 ^ l.length), Int.mul_assoc]
      rw [h1] at h
      have h2 : (n * 10 + digitF b.toNat + 1) * 10 ^ l.length ≤ ((n + 1) * 10) * 10 ^ l.length := Int.mul_le_mul_of_nonneg_right (by omega) (by omega)
      have h3 : (n * 10 + digitF b.toNat + 1) * 1 ≤ (n * 10 + digitF b.toNat + 1) * 10 ^ l.length := Int.mul_le_mul_of_nonneg_left hp (by omega)
      rw [hw, if_neg (by omega), if_neg hd, if_pos (show n ≥ 0 by omega), if_neg (by omega), if_neg (by omega)]
      exact count_short l _ (by omega) (by omega)
def Pw (n : Int) (k : Nat) : Prop := (n + 1) * 10 ^ k ≤ 10000000000
theorem pow_step {n d : Int} {k : Nat} (h0 : 0 ≤ n) (hd : 0 ≤ d ∧ d ≤ 9) (h : Pw n (k + 1)) : Pw (10 * n + d) k := by
  unfold Pw at *
  have hp : (1 : Int) ≤ 10 ^ k := ten_pos _
  have h1 : (n + 1) * 10 ^ (k + 1) = ((n + 1) * 10) * 10 ^ k := by rw [Int.pow_succ, Int.mul_comm (10 ^ k), Int.mul_assoc]
  rw [h1] at h
  exact Int.le_trans (Int.mul_le_mul_of_nonneg_right (by omega) (by omega)) h
theorem pow_bound {n : Int} {k : Nat} (h0 : 0 ≤ n) (h : Pw n k) : n < 10000000000 := by
  unfold Pw at h
  have hp : (1 : Int) ≤ 10 ^ k := ten_pos _
  have h3 : (n + 1) * 1 ≤ (n + 1) * 10 ^ k := Int.mul_le_mul_of_nonneg_left hp (by omega)
  omega
theorem digitF_dec {c : Int} : (48 ≤ c ∧ c ≤ 57 → digitF c = c - 48) ∧ (¬ (48 ≤ c ∧ c ≤ 57) → digitF c ≥ 10) := by
  unfold digitF
  refine ⟨fun h => ?_, fun h => ?_⟩ <;> (repeat' split) <;> omega
def idxF (l : List UInt8) : Int × Bool :=
  if l = [] ∨ 10 < l.length ∨ (l.head? = some 48 ∧ 1 < l.length) then (0, false) else
  match countF 10 l 0 with
  | some n => if n > 4294967294 then (0, false) else (n, true)
  | none => (0, false)
attribute [local irreducible] G GC GQ GA GAop Calls IntKind.wrap Int.decLt Int.decLe bAt
section
variable (w : World) (μ : Mem) (hμ : MOk μ w)
include hμ
set_option maxRecDepth 4000 in
theorem index_spec (s : ByteArray) (hs : s.size ≤ 9223372036854775807) : Calls Tryz.prog 58 #[.string s] w fun e w' => e = .returned (.tuple #[.int .i64 (idxF (bl s)).1, .bool (idxF (bl s)).2]) ∧ Below w.heap.size w w' := by
  refine call_intro Tryz.func58 rfl Tryz.ntmps58 (by simp) hμ ?_
  have hh : 0 < s.size → ((bl s).head? = some 48 ↔ bAt s 0 = 48) := fun h => head_at h
  by_cases h0 : s = ⟨#[]⟩
  · have hF : idxF (bl s) = (0, false) := by unfold idxF; rw [if_pos (.inl ((bl_empty_iff s).1 h0))]
    rw [hF]
    repeat' (first | refine KK ?_ | ((refine KB ?_ ?_ <;> intro hp)) | refine KG ?_ | fail)
    exact ret_s2 rfl rfl rfl rfl rfl
  · have h0' : bl s ≠ [] := fun h => h0 ((bl_empty_iff s).2 h)
    have hpos : 0 < s.size := by rw [← bl_len]; exact List.length_pos_iff.2 h0'
    by_cases hbad : 10 < s.size ∨ (bAt s 0 = 48 ∧ 1 < s.size)
    · have hF : idxF (bl s) = (0, false) := by
        unfold idxF
        rw [if_pos]
        rw [bl_len, hh hpos]
        exact .inr hbad
      rw [hF]
      repeat' (first | refine KO ?_ | (refine KV (b := by first | exact U2 0) (c := ?_)) | refine KI ?_ | ((refine KB ?_ ?_ <;> intro hp)) | refine KG ?_ | fail)
      all_goals first | (exfalso; omega) | exact ret_s2 rfl rfl rfl rfl rfl
    · have hF : idxF (bl s) = match countF 10 (bl s) 0 with
          | some n => if n > 4294967294 then (0, false) else (n, true)
          | none => (0, false) := by
        unfold idxF
        rw [if_neg]
        rw [bl_len, hh hpos]
        rintro (h | h)
        · exact h0' h
        · exact hbad h
      rw [hF]
      repeat' (first | refine KO ?_ | (refine KV (b := by first | exact U2 0) (c := ?_)) | refine KI ?_ | ((refine KB ?_ ?_ <;> intro hp)) | refine KG ?_ | fail)
      all_goals first | (exfalso; omega) | skip
      all_goals
        refine gc_loop (ι := Nat × Int) (fun i => i.1 ≤ s.size ∧ 0 ≤ i.2 ∧ Pw i.2 (s.size - i.1) ∧ countF 10 (bl s) 0 = countF 10 ((bl s).drop i.1) i.2) (fun i => s.size - i.1) (fun _ => μ) (fun i => [(25, .int .i64 i.1), (24, .int .i64 s.size), (4, .int .i64 i.2), (0, .string s)]) (fun _ => []) (0, 0) ⟨by simp, by simp, by
          have := ten_le (k := s.size) (by omega)
          simpa [Pw] using this, by simp⟩ (fun a w hs => hs.sub PU (by repeat first | exact List.Sublist.refl _ | exact List.nil_sublist _ | refine List.Sublist.cons _ ?_)) ?_
        rintro ⟨i, n⟩ ⟨hi, hn0, hn1, hc⟩
        dsimp only at hi hn0 hn1 hc ⊢
        clear hh hF
        have hnb := pow_bound hn0 hn1
        by_cases hlt : i < s.size
        · obtain ⟨c, hc1, hc2⟩ := bl_at hlt
          have h1 := bAt_lo s i
          have h2 := bAt_hi s i
          obtain ⟨d1, d2⟩ := digitF_dec (c := bAt s i)
          rw [drop_cons hc1, countF, ← hc2] at hc
          by_cases hdig : 48 ≤ bAt s i ∧ bAt s i ≤ 57
          · have hd := d1 hdig
            rw [show s.size - i = (s.size - (i + 1)) + 1 by omega] at hn1
            have hst := pow_step (d := bAt s i - 48) hn0 (by omega) hn1
            rw [if_neg (by omega), if_neg (by omega), show n * 10 + digitF (bAt s i) = 10 * n + (bAt s i - 48) by omega] at hc
            clear hn1
            repeat' (first | refine KK ?_ | ((refine KB ?_ ?_ <;> intro hp)) | refine KG ?_ | fail)
            exact gq_back (i + 1, 10 * n + (bAt s i - 48)) ⟨by dsimp only; omega, by dsimp only; omega, hst, hc⟩ (by dsimp only; omega) rfl PU (by repeat first | exact List.Sublist.refl _ | exact List.nil_sublist _ | refine List.Sublist.cons _ ?_)
          · have hd := d2 hdig
            rw [if_pos hd] at hc
            rw [hc]
            clear hn1 hc
            repeat' (first | refine KK ?_ | ((refine KB ?_ ?_ <;> intro hp)) | refine KG ?_ | fail)
            all_goals first | (exfalso; omega) | exact ret_s2 rfl rfl rfl rfl rfl
        · have hd : (bl s).drop i = [] := List.drop_of_length_le (by rw [bl_len]; omega)
          rw [hd, countF] at hc
          rw [hc]
          clear hn1 hc
          by_cases hbig : n > 4294967294
          · simp only [if_pos hbig]
            repeat' (first | refine KK ?_ | ((refine KB ?_ ?_ <;> intro hp)) | refine KG ?_ | fail)
            exact ret_s2 rfl rfl rfl rfl rfl
          · simp only [if_neg hbig]
            repeat' (first | refine KK ?_ | ((refine KB ?_ ?_ <;> intro hp)) | refine KG ?_ | fail)
            exact ret_s2 rfl rfl rfl rfl rfl
end
end Go.Proofs.YtmihpkdhfomcgaaGreatDoor
namespace Go.Proofs.YtmihpkdhfomcgaaGreatDoor
open Go.RowKit Go.Vcg
theorem idx_ref (s : ByteArray) (h : ¬ (bl s = [] ∨ 10 < s.size ∨ (bAt s 0 = 48 ∧ 1 < s.size))) : idxF (bl s) = if (rcount2 10 (bl s)).2 = false ∨ (rcount2 10 (bl s)).1 > 4294967294 then (0, false) else ((rcount2 10 (bl s)).1, true) := by
  have h0' : bl s ≠ [] := fun e => h (.inl e)
  have hpos : 0 < s.size := by rw [← bl_len]; exact List.length_pos_iff.2 h0'
  have hh : (bl s).head? = some 48 ↔ bAt s 0 = 48 := head_at hpos
  have hF : idxF (bl s) = match countF 10 (bl s) 0 with
      | some n => if n > 4294967294 then (0, false) else (n, true)
      | none => (0, false) := by
    unfold idxF
    exact if_neg (by rw [bl_len, hh]; exact h)
  have hl : (bl s).length ≤ 10 := by rw [bl_len]; omega
  have hc := count_short (bl s) 0 (by omega) (by
    have := ten_le hl
    have e : ((0 : Int) + 1) * 10 ^ (bl s).length = 10 ^ (bl s).length := by simp
    rw [e]
    exact Int.le_trans this (by decide))
  rw [hF]
  unfold rcount2
  rw [hc]
  cases h2 : countF 10 (bl s) 0 with
  | none => simp
  | some n => simp [h0']
attribute [local irreducible] G GC GQ GA GAop Calls IntKind.wrap Int.decLt Int.decLe bAt
section
variable (w : World) (μ : Mem) (hμ : MOk μ w)
include hμ
set_option maxRecDepth 4000 in
theorem refIndex_spec (s : ByteArray) (hs : s.size ≤ 9223372036854775807) : Calls Tryz.prog 89 #[.string s] w fun e w' => e = .returned (.tuple #[.int .i64 (idxF (bl s)).1, .bool (idxF (bl s)).2]) ∧ Below w.heap.size w w' := by
  refine call_intro Tryz.func89 rfl Tryz.ntmps89 (by simp) hμ ?_
  have hh : 0 < s.size → ((bl s).head? = some 48 ↔ bAt s 0 = 48) := fun h => head_at h
  by_cases h0 : s = ⟨#[]⟩
  · have hF : idxF (bl s) = (0, false) := by unfold idxF; rw [if_pos (.inl ((bl_empty_iff s).1 h0))]
    rw [hF]
    repeat' (first | refine KK ?_ | ((refine KB ?_ ?_ <;> intro hp)) | refine KG ?_ | fail)
    exact ret_s2 rfl rfl rfl rfl rfl
  · have h0' : bl s ≠ [] := fun h => h0 ((bl_empty_iff s).2 h)
    have hpos : 0 < s.size := by rw [← bl_len]; exact List.length_pos_iff.2 h0'
    by_cases hbad : 10 < s.size ∨ (bAt s 0 = 48 ∧ 1 < s.size)
    · have hF : idxF (bl s) = (0, false) := by
        unfold idxF
        rw [if_pos]
        rw [bl_len, hh hpos]
        exact .inr hbad
      rw [hF]
      repeat' (first | refine KO ?_ | (refine KV (b := by first | exact U2 0) (c := ?_)) | refine KI ?_ | ((refine KB ?_ ?_ <;> intro hp)) | refine KG ?_ | fail)
      all_goals first | (exfalso; omega) | exact ret_s2 rfl rfl rfl rfl rfl
    · rw [idx_ref s (fun h => h.elim h0' hbad)]
      have hcnt := fun w μ hμ => refCount_spec w μ hμ s 10 (.inl rfl) hs
      generalize rcount2 10 (bl s) = r at hcnt
      clear hh
      repeat' (first | refine KO ?_ | ((with_reducible apply C1); exact rfl; exact EN; exact fun w μc hw hse => hcnt w μc hw) | (refine KV (b := by first | exact U2 0) (c := ?_)) | refine KI ?_ | ((refine KB ?_ ?_ <;> intro hp)) | refine KG ?_ | fail)
      all_goals first
        | (exfalso; omega)
        | (rw [if_pos (.inl (by assumption))]; exact ret_s2 rfl rfl rfl rfl rfl)
        | (rw [if_pos (.inr (by omega))]; exact ret_s2 rfl rfl rfl rfl rfl)
        | (rw [if_neg (fun h => h.elim (fun e => by simp_all) (fun e => by omega))]; exact ret_s2 rfl rfl rfl rfl rfl)
end
end Go.Proofs.YtmihpkdhfomcgaaGreatDoor
