/- Numbers of package num: what In, Of, digit and count compute, and their contracts. (and what leans on it). No statement of the seat is proved here. -/
import Derived.Test.YtmihpkdhfomcgaaDoorVq
import Derived.Lib.SlTrimSet
import Derived.Test.YtmihpkdhfomcgaaDoorSt
import Derived.Test.YtmihpkdhfomcgaaDoorShelf
import Derived.Lib.AppendIntMem
import Derived.Lib.LaidU8
import Derived.Lib.LaidTab
set_option maxRecDepth 20000
set_option maxHeartbeats 2000000
namespace Go.Proofs.YtmihpkdhfomcgaaDoor
open Go.RowKit Go.Vcg
structure V where
  k : Int
  n : Int
  s : ByteArray
def noS : ByteArray := ⟨#[]⟩
abbrev encV (v : V) : List Value := [.int .i64 v.k, .int .i64 v.n, .string v.s]
def nanV : V := ⟨4, 0, noS⟩
def inF (n : Int) : Bool := decide (-9007199254740992 ≤ n) && decide (n ≤ 9007199254740992)
def ofF (n : Int) : V := if inF n then ⟨3, n, noS⟩ else nanV
def digitF (c : Int) : Int := if 48 ≤ c ∧ c ≤ 57 then c - 48 else if 97 ≤ c ∧ c ≤ 102 then c - 97 + 10 else if 65 ≤ c ∧ c ≤ 70 then c - 65 + 10 else 99
def countF (base : Int) : List UInt8 → Int → Option Int
  | [], n => some n
  | b :: r, n => if digitF b.toNat ≥ base then none else if n * base + digitF b.toNat > 9007199254740992 then none else countF base r (n * base + digitF b.toNat)
def count2 (base : Int) (l : List UInt8) : Int × Bool := match countF base l 0 with
  | some n => (n, decide (l ≠ []))
  | none => (0, false)
theorem digitF_lo {c : Int} (h : 0 ≤ c) : 0 ≤ digitF c := by
  unfold digitF
  split
  · omega
  · split
    · omega
    · split <;> omega
theorem digitF_hi {c : Int} : digitF c ≤ 99 := by
  unfold digitF
  split
  · omega
  · split
    · omega
    · split <;> omega
theorem drop_cons {l : List UInt8} {i : Nat} {b : UInt8} (h : l[i]? = some b) : l.drop i = b :: l.drop (i + 1) := by
  obtain ⟨hi, rfl⟩ := List.getElem?_eq_some_iff.1 h
  exact List.drop_eq_getElem_cons hi
theorem bl_at {s : ByteArray} {i : Nat} (h : i < s.size) : ∃ b, (bl s)[i]? = some b ∧ bAt s i = b.toNat := by
  have : i < (bl s).length := by rw [bl_len]; exact h
  exact ⟨(bl s)[i], List.getElem?_eq_getElem this, bAt_get (List.getElem?_eq_getElem this)⟩
theorem ne_bl (s : ByteArray) : decide (s ≠ ⟨#[]⟩) = decide (bl s ≠ []) := by
  congr 1
  simp only [ne_eq, bl_empty_iff]
attribute [local irreducible] G GC GQ GA GAop Calls IntKind.wrap Int.decLt Int.decLe
theorem in_spec (n : Int) (w : World) (μ : Mem) (hμ : MOk μ w) :
    Calls Tryd.prog 45 #[.int .i64 n] w fun e w' => e = .returned (.bool (inF n)) ∧ Below w.heap.size w w' := by
  refine call_intro Tryd.func45 rfl Tryd.ntmps45 (by simp) hμ ?_
  repeat' (first | refine KK ?_ | ((refine KB ?_ ?_ <;> intro hp)) | refine KG ?_ | fail)
  all_goals refine ret_s rfl rfl ?_
  all_goals unfold inF
  all_goals first | (simp_all; done) | (simp_all; omega)
theorem none_spec (w : World) (μ : Mem) (hμ : MOk μ w) :
    Calls Tryd.prog 46 #[] w fun e w' => e = .returned (.agg (encV nanV).toArray) ∧ Below w.heap.size w w' := by
  refine call_intro (args := []) Tryd.func46 rfl Tryd.ntmps46 (by simp) hμ ?_
  repeat' (first | refine KK ?_ | refine NB fun b => ?_ | ((refine KB ?_ ?_ <;> intro hp)) | refine KG ?_ | fail)
  exact ret_v1 rfl (rv_agg 0 rfl rfl rfl rfl rfl (by repeat first | exact lc_nil | refine lc_cons rfl ?_)) rfl
theorem of_spec (n : Int) (w : World) (μ : Mem) (hμ : MOk μ w) :
    Calls Tryd.prog 32 #[.int .i64 n] w fun e w' => e = .returned (.agg (encV (ofF n)).toArray) ∧ Below w.heap.size w w' := by
  refine call_intro Tryd.func32 rfl Tryd.ntmps32 (by simp) hμ ?_
  unfold ofF
  repeat' (first | refine KO ?_ | ((with_reducible apply F1 45); exact rfl; exact EN; exact fun w μc hw hse => in_spec n w μc hw) | ((with_reducible apply F1 46); exact rfl; exact EN; exact fun w μc hw hse => none_spec w μc hw) | refine KI ?_ | refine NB fun b => ?_ | ((refine KB ?_ ?_ <;> intro hp)) | refine KG ?_ | fail)
  · rw [if_pos hp]
    exact ret_v1 rfl (rv_agg 0 rfl rfl rfl rfl rfl (by repeat first | exact lc_nil | refine lc_cons rfl ?_)) rfl
  · rw [if_neg (by simp [hp])]
    exact ret_v1 rfl (rv_agg 0 rfl rfl rfl rfl rfl (by repeat first | exact lc_nil | refine lc_cons rfl ?_)) rfl
theorem digit_spec (c : Int) (hc : 0 ≤ c ∧ c ≤ 255) (w : World) (μ : Mem) (hμ : MOk μ w) :
    Calls Tryd.prog 67 #[.int .u8 c] w fun e w' => e = .returned (.int .i64 (digitF c)) ∧ Below w.heap.size w w' := by
  refine call_intro Tryd.func67 rfl Tryd.ntmps67 (by simp) hμ ?_
  repeat' (first | refine KK ?_ | ((refine KB ?_ ?_ <;> intro hp)) | refine KG ?_ | fail)
  all_goals refine ret_s rfl rfl ?_
  all_goals congr 1
  all_goals unfold digitF
  all_goals (repeat' split) <;> omega
theorem count_spec (s : ByteArray) (base : Int) (hb : base = 10 ∨ base = 16) (hs : s.size ≤ 9223372036854775807) (w : World) (μ : Mem) (hμ : MOk μ w) :
    Calls Tryd.prog 53 #[.string s, .int .i64 base] w fun e w' => e = .returned (.tuple #[.int .i64 (count2 base (bl s)).1, .bool (count2 base (bl s)).2]) ∧ Below w.heap.size w w' := by
  refine call_intro Tryd.func53 rfl Tryd.ntmps53 (by simp) hμ ?_
  repeat' (first | refine KK ?_ | ((refine KB ?_ ?_ <;> intro hp)) | refine KG ?_ | fail)
  refine gc_loop (ι := Nat × Int) (fun i => i.1 ≤ s.size ∧ 0 ≤ i.2 ∧ i.2 ≤ 9007199254740992 ∧ countF base (bl s) 0 = countF base ((bl s).drop i.1) i.2) (fun i => s.size - i.1) (fun _ => μ) (fun i => [(11, .int .i64 i.1), (10, .int .i64 s.size), (6, .int .i64 i.2), (1, .int .i64 base), (0, .string s)]) (fun _ => []) (0, 0) ⟨by simp, by simp, by simp, by simp⟩ (fun a w hs => hs.sub PU (by repeat first | exact List.Sublist.refl _ | exact List.nil_sublist _ | refine List.Sublist.cons _ ?_)) ?_
  rintro ⟨i, n⟩ ⟨hi, hn0, hn1, hc⟩
  dsimp only at hi hn0 hn1 hc ⊢
  by_cases hlt : i < s.size
  · obtain ⟨b, hb1, hb2⟩ := bl_at hlt
    have h1 := bAt_lo s i
    have h2 := bAt_hi s i
    have h3 := digitF_lo h1
    have h4 := digitF_hi (c := bAt s i)
    rw [drop_cons hb1, countF, ← hb2] at hc
    have hk : 0 ≤ n * base ∧ n * base ≤ 9223372036854775707 := by rcases hb with rfl | rfl <;> omega
    repeat' (first | refine KO ?_ | ((with_reducible apply C1); exact rfl; exact EN; exact fun w μc hw hse => digit_spec _ (by omega) w μc hw) | refine KI ?_ | ((refine KB ?_ ?_ <;> intro hp)) | refine KG ?_ | fail)
    · rw [if_pos (by omega)] at hc
      exact ret_s2 rfl rfl rfl (by simp [count2, hc]) (by simp [count2, hc])
    · rw [if_neg (by omega), if_pos (by omega)] at hc
      exact ret_s2 rfl rfl rfl (by simp [count2, hc]) (by simp [count2, hc])
    · rw [if_neg (by omega), if_neg (by omega)] at hc
      exact gq_back (i + 1, n * base + digitF (bAt s i)) ⟨by dsimp only; omega, by dsimp only; omega, by dsimp only; omega, hc⟩ (by dsimp only; omega) rfl PU (by repeat first | exact List.Sublist.refl _ | exact List.nil_sublist _ | refine List.Sublist.cons _ ?_)
  · have hi' : i = s.size := by omega
    have hd : (bl s).drop i = [] := List.drop_of_length_le (by rw [bl_len]; omega)
    rw [hd, countF] at hc
    repeat' (first | refine KK ?_ | ((refine KB ?_ ?_ <;> intro hp)) | refine KG ?_ | fail)
    refine ret_s2 rfl rfl rfl ?_ ?_
    · simp [count2, hc]
    · rw [ne_bl]; simp [count2, hc]
theorem hasPre_spec (s p : ByteArray) (hs : s.size ≤ 9223372036854775807) (hp' : p.size ≤ 9223372036854775807) (w : World) (μ : Mem) (hμ : MOk μ w) :
    Calls Tryd.prog 66 #[.string s, .string p] w fun e w' => e = .returned (.bool (decide ((bl s).take p.size = bl p))) ∧ Below w.heap.size w w' := by
  refine call_intro Tryd.func66 rfl Tryd.ntmps66 (by simp) hμ ?_
  repeat' (first | refine KO ?_ | (refine KV (b := by first | ((with_reducible apply v_str_hi p.size); exact rfl; exact rfl; exact rfl; exact rfl; omega)) (c := ?_)) | refine KI ?_ | ((refine KB ?_ ?_ <;> intro hp)) | refine KG ?_ | fail)
  · refine ret_s rfl rfl ?_
    congr 2
    apply propext
    constructor
    · intro h
      have := congrArg bl h
      rw [bl_extract] at this
      simpa using this
    · intro h
      apply bl_inj
      rw [bl_extract]
      simpa using h
  · refine ret_s rfl rfl ?_
    have : ¬ (bl s).take p.size = bl p := fun h => by
      have := congrArg List.length h
      rw [List.length_take, bl_len, bl_len] at this
      omega
    simp [this]
theorem hasPrefix_spec (s p : ByteArray) (hs : s.size ≤ 9223372036854775807) (hp' : p.size ≤ 9223372036854775807) (w : World) (μ : Mem) (hμ : MOk μ w) :
    Calls Tryd.prog 52 #[.string s, .string p] w fun e w' => e = .returned (.bool (decide ((bl s).take p.size = bl p))) ∧ Below w.heap.size w w' := by
  refine call_intro Tryd.func52 rfl Tryd.ntmps52 (by simp) hμ ?_
  repeat' (first | refine KO ?_ | ((with_reducible apply C1); exact rfl; exact EN; exact fun w μc hw hse => hasPre_spec s p hs hp' w μc hw) | refine KI ?_ | ((refine KB ?_ ?_ <;> intro hp)) | refine KG ?_ | fail)
  exact ret_s rfl rfl rfl
end Go.Proofs.YtmihpkdhfomcgaaDoor
namespace Go.Proofs.YtmihpkdhfomcgaaDoor
open Go.RowKit Go.Vcg
def cutB : List UInt8 := [9, 10, 13, 32]
def numOr (r : Int × Bool) (sign : Int) : V := if r.2 then ofF (sign * r.1) else nanV
def readT (t : List UInt8) : V :=
  if t = [] then ofF 0 else if t.take 2 = [48, 120] ∨ t.take 2 = [48, 88] then numOr (count2 16 (t.drop 2)) 1
  else numOr (count2 10 (if t.head? = some 45 ∨ t.head? = some 43 then t.drop 1 else t)) (if t.head? = some 45 then -1 else 1)
def readF (l : List UInt8) : V := readT (Lib.trimS l cutB)
theorem trim_len (l : List UInt8) : (Lib.trimS l cutB).length ≤ l.length := by
  unfold Lib.trimS Lib.trimLeftS Lib.trimRightS
  have h1 := (List.dropWhile_sublist (cutB.contains ·) (l := List.reverse (List.dropWhile (cutB.contains ·) l.reverse))).length_le
  have h2 := (List.dropWhile_sublist (cutB.contains ·) (l := l.reverse)).length_le
  simp only [List.length_reverse] at h1 h2
  omega
theorem count2_lo (base : Int) (l : List UInt8) (hb : base = 10 ∨ base = 16) : 0 ≤ (count2 base l).1 ∧ (count2 base l).1 ≤ 9007199254740992 := by
  have key : ∀ (l : List UInt8) (n : Int), 0 ≤ n → n ≤ 9007199254740992 → ∀ m, countF base l n = some m → 0 ≤ m ∧ m ≤ 9007199254740992 := by
    intro l
    induction l with
    | nil => intro n h0 h1 m h; simp only [countF, Option.some.injEq] at h; omega
    | cons b l ih =>
      intro n h0 h1 m h
      rw [countF] at h
      split at h
      · cases h
      · split at h
        · cases h
        · have := digitF_lo (c := b.toNat) (by omega)
          refine ih _ ?_ ?_ m h
          · rcases hb with rfl | rfl <;> omega
          · omega
  unfold count2
  split
  · rename_i n h; exact key l 0 (by omega) (by omega) n h
  · simp
attribute [local irreducible] G GC GQ GA GAop Calls IntKind.wrap Int.decLt Int.decLe
theorem trim_spec (s : ByteArray) (hs : s.size ≤ 9223372036854775807) (w : World) :
    Calls Tryd.prog 51 #[.string s, .string ⟨#[9, 10, 13, 32]⟩] w fun e w' => e = .returned (.string ⟨(Lib.trimS (bl s) cutB).toArray⟩) ∧ Below w.heap.size w w' :=
  Any.strings_Trim_laid Tryd.lays160 (by kernel_rfl) s ⟨#[9, 10, 13, 32]⟩ w hs (by decide) (ascii_of_all (by decide))
theorem numOr_t {r : Int × Bool} {sign : Int} (h : r.2 = true) : numOr r sign = ofF (sign * r.1) := by unfold numOr; rw [if_pos h]
theorem numOr_f {r : Int × Bool} {sign : Int} (h : r.2 = false) : numOr r sign = nanV := by unfold numOr; rw [if_neg (by simp [h])]
theorem head_at {s : ByteArray} {b : UInt8} (h : 0 < s.size) : (bl s).head? = some b ↔ bAt s 0 = b.toNat := by
  obtain ⟨c, h1, h2⟩ := bl_at h
  rw [List.head?_eq_getElem?, h1, h2]
  constructor
  · intro e; cases e; rfl
  · intro e
    have : c = b := UInt8.toNat_inj.1 (by omega)
    rw [this]
theorem read_spec (s : ByteArray) (hs : s.size ≤ 9223372036854775807) (w : World) (μ : Mem) (hμ : MOk μ w) :
    Calls Tryd.prog 40 #[.string s] w fun e w' => e = .returned (.agg (encV (readF (bl s))).toArray) ∧ Below w.heap.size w w' := by
  refine call_intro Tryd.func40 rfl Tryd.ntmps40 (by simp) hμ ?_
  unfold readF
  have hl := trim_len (bl s)
  rw [bl_len] at hl
  generalize ht : (⟨(Lib.trimS (bl s) cutB).toArray⟩ : ByteArray) = t
  have hbt : Lib.trimS (bl s) cutB = bl t := by rw [← ht]
  have htl : t.size ≤ 9223372036854775807 := by rw [← bl_len, ← hbt]; omega
  rw [hbt]
  have htrim : ∀ w, Calls Tryd.prog 51 #[.string s, .string ⟨#[9, 10, 13, 32]⟩] w fun e w' => e = .returned (.string t) ∧ Below w.heap.size w w' := fun w => by
    have := trim_spec s hs w
    rw [ht] at this
    exact this
  clear ht hbt hl
  by_cases h0 : t = ⟨#[]⟩
  · subst h0
    have hr : readT (bl ⟨#[]⟩) = ofF 0 := by unfold readT; exact if_pos rfl
    rw [hr]
    repeat' (first | refine KO ?_ | ((with_reducible apply F1 51); exact rfl; exact EN; exact fun w μc hw hse => htrim w) | ((with_reducible apply F1 32); exact rfl; exact EN; exact fun w μc hw hse => of_spec _ w μc hw) | ((with_reducible apply F1 46); exact rfl; exact EN; exact fun w μc hw hse => none_spec w μc hw) | ((with_reducible apply F1 52); exact rfl; exact EN; exact fun w μc hw hse => hasPrefix_spec t _ htl (by decide) w μc hw) | refine KI ?_ | refine NB fun b => ?_ | ((refine KB ?_ ?_ <;> intro hp)) | refine KG ?_ | fail)
    exact ret_v1 rfl (rv_agg 0 rfl rfl rfl rfl rfl (by repeat first | exact lc_nil | refine lc_cons rfl ?_)) rfl
  · have h0' : bl t ≠ [] := fun h => h0 ((bl_empty_iff t).2 h)
    have hpos : 0 < t.size := by
      rw [← bl_len]
      exact List.length_pos_iff.2 h0'
    by_cases h16 : (bl t).take 2 = [48, 120] ∨ (bl t).take 2 = [48, 88]
    · have h2 : 2 ≤ t.size := by
        have : ((bl t).take 2).length = 2 := by rcases h16 with h | h <;> rw [h] <;> rfl
        rw [List.length_take, bl_len] at this
        omega
      have hr : readT (bl t) = numOr (count2 16 ((bl t).drop 2)) 1 := by unfold readT; rw [if_neg h0', if_pos h16]
      rw [hr]
      have hu : bl (t.extract 2 t.size) = (bl t).drop 2 := by
        rw [bl_extract]
        exact List.take_of_length_le (by rw [List.length_drop, bl_len]; omega)
      have hus : (t.extract 2 t.size).size ≤ 9223372036854775807 := by rw [← bl_len, hu, List.length_drop, bl_len]; omega
      have hcnt : ∀ (w : World) (μ : Mem), MOk μ w → Calls Tryd.prog 53 #[.string (t.extract 2 t.size), .int .i64 16] w fun e w' => e = .returned (.tuple #[.int .i64 (count2 16 ((bl t).drop 2)).1, .bool (count2 16 ((bl t).drop 2)).2]) ∧ Below w.heap.size w w' := fun w μ hμ => by
        have := count_spec (t.extract 2 t.size) 16 (.inr rfl) hus w μ hμ
        rw [hu] at this
        exact this
      generalize count2 16 ((bl t).drop 2) = r at hcnt
      have q : ((bl t).take (ByteArray.size ⟨#[48, 120]⟩) = bl ⟨#[48, 120]⟩) ∨ (¬ (bl t).take (ByteArray.size ⟨#[48, 120]⟩) = bl ⟨#[48, 120]⟩ ∧ (bl t).take (ByteArray.size ⟨#[48, 88]⟩) = bl ⟨#[48, 88]⟩) := by
        by_cases h : (bl t).take 2 = [48, 120]
        · exact .inl h
        · exact .inr ⟨h, h16.resolve_left h⟩
      rcases q with q | ⟨q, q'⟩
      all_goals repeat' (first | refine KO ?_ | ((with_reducible apply F1 51); exact rfl; exact EN; exact fun w μc hw hse => htrim w) | ((with_reducible apply F1 32); exact rfl; exact EN; exact fun w μc hw hse => of_spec _ w μc hw) | ((with_reducible apply F1 46); exact rfl; exact EN; exact fun w μc hw hse => none_spec w μc hw) | ((with_reducible apply F1 52); exact rfl; exact EN; exact fun w μc hw hse => hasPrefix_spec t _ htl (by decide) w μc hw) | ((with_reducible apply F1 53); exact rfl; exact EN; exact fun w μc hw hse => hcnt w μc hw) | (refine KV (b := by first | ((with_reducible apply v_str_lo 2); exact rfl; exact rfl; exact rfl; exact rfl; omega)) (c := ?_)) | refine KI ?_ | refine NB fun b => ?_ | ((refine KB ?_ ?_ <;> intro hp)) | refine KG ?_ | fail)
      all_goals first
        | (rw [numOr_t (by assumption), Int.one_mul]; exact ret_v1 rfl (rv_agg 0 rfl rfl rfl rfl rfl (by repeat first | exact lc_nil | refine lc_cons rfl ?_)) rfl)
        | (rw [numOr_f (by assumption)]; exact ret_v1 rfl (rv_agg 0 rfl rfl rfl rfl rfl (by repeat first | exact lc_nil | refine lc_cons rfl ?_)) rfl)
    · have hr : readT (bl t) = numOr (count2 10 (if (bl t).head? = some 45 ∨ (bl t).head? = some 43 then (bl t).drop 1 else bl t)) (if (bl t).head? = some 45 then -1 else 1) := by unfold readT; rw [if_neg h0', if_neg h16]
      rw [hr]
      have hh := head_at (s := t) (b := 45) hpos
      have hh' := head_at (s := t) (b := 43) hpos
      simp only [hh, hh']
      rw [show (45 : UInt8).toNat = 45 from rfl, show (43 : UInt8).toNat = 43 from rfl]
      clear hr hh hh'
      have hu : bl (t.extract 1 t.size) = (bl t).drop 1 := by
        rw [bl_extract]
        exact List.take_of_length_le (by rw [List.length_drop, bl_len]; omega)
      have hus : (t.extract 1 t.size).size ≤ 9223372036854775807 := by rw [← bl_len, hu, List.length_drop, bl_len]; omega
      have hcnt : ∀ (w : World) (μ : Mem), MOk μ w → Calls Tryd.prog 53 #[.string (t.extract 1 t.size), .int .i64 10] w fun e w' => e = .returned (.tuple #[.int .i64 (count2 10 ((bl t).drop 1)).1, .bool (count2 10 ((bl t).drop 1)).2]) ∧ Below w.heap.size w w' := fun w μ hμ => by
        have := count_spec (t.extract 1 t.size) 10 (.inl rfl) hus w μ hμ
        rw [hu] at this
        exact this
      have c1 := count2_lo 10 ((bl t).drop 1) (.inl rfl)
      have c2 := count2_lo 10 (bl t) (.inl rfl)
      have hb0 := bAt_lo t 0
      have n1 : ¬ (bl t).take (ByteArray.size ⟨#[48, 120]⟩) = bl ⟨#[48, 120]⟩ := fun h => h16 (.inl h)
      have n2 : ¬ (bl t).take (ByteArray.size ⟨#[48, 88]⟩) = bl ⟨#[48, 88]⟩ := fun h => h16 (.inr h)
      repeat' (first | refine KO ?_ | ((with_reducible apply F1 51); exact rfl; exact EN; exact fun w μc hw hse => htrim w) | ((with_reducible apply F1 32); exact rfl; exact EN; exact fun w μc hw hse => of_spec _ w μc hw) | ((with_reducible apply F1 46); exact rfl; exact EN; exact fun w μc hw hse => none_spec w μc hw) | ((with_reducible apply F1 52); exact rfl; exact EN; exact fun w μc hw hse => hasPrefix_spec t _ htl (by decide) w μc hw) | ((with_reducible apply F1 53); exact rfl; exact EN; exact fun w μc hw hse => hcnt w μc hw) | ((with_reducible apply F1 53); exact rfl; exact EN; exact fun w μc hw hse => count_spec t 10 (.inl rfl) htl w μc hw) | (refine KV (b := by first | exact U2 0 | ((with_reducible apply v_str_lo 1); exact rfl; exact rfl; exact rfl; exact rfl; omega)) (c := ?_)) | refine KI ?_ | refine NB fun b => ?_ | ((refine KB ?_ ?_ <;> intro hp)) | refine KG ?_ | fail)
      all_goals first | rw [if_pos (by omega)] | rw [if_neg (by omega)]
      all_goals first | rw [if_pos (by omega)] | rw [if_neg (by omega)]
      all_goals first
        | (rw [numOr_t (by assumption)]; exact ret_v1 rfl (rv_agg 0 rfl rfl rfl rfl rfl (by repeat first | exact lc_nil | refine lc_cons rfl ?_)) rfl)
        | (rw [numOr_f (by assumption)]; exact ret_v1 rfl (rv_agg 0 rfl rfl rfl rfl rfl (by repeat first | exact lc_nil | refine lc_cons rfl ?_)) rfl)
end Go.Proofs.YtmihpkdhfomcgaaDoor
namespace Go.Proofs.YtmihpkdhfomcgaaDoor
open Go.RowKit Go.Vcg
def blankF (c : Int) : Bool := decide (c = 9) || decide (c = 10) || decide (c = 13) || decide (c = 32)
theorem blank_cut (b : UInt8) : blankF b.toNat = cutB.contains b := by
  have h : ∀ k : UInt8, ((b.toNat : Int) = (k.toNat : Int)) ↔ b = k := fun k => by
    constructor
    · intro e; exact UInt8.toNat_inj.1 (by omega)
    · rintro rfl; rfl
  have h9 := h 9; have h10 := h 10; have h13 := h 13; have h32 := h 32
  rw [show ((9 : UInt8).toNat : Int) = 9 from rfl] at h9
  rw [show ((10 : UInt8).toNat : Int) = 10 from rfl] at h10
  rw [show ((13 : UInt8).toNat : Int) = 13 from rfl] at h13
  rw [show ((32 : UInt8).toNat : Int) = 32 from rfl] at h32
  rw [Bool.eq_iff_iff]
  simp [blankF, cutB, h9, h10, h13, h32, or_assoc]
def worthF (base : Int) (c : Int) : Int := if digitF c ≥ base then -1 else digitF c
def rcountF (base : Int) : List UInt8 → Int → Option Int
  | [], n => some n
  | b :: r, n => if worthF base b.toNat < 0 then none else
    if (if n ≥ 0 then n * base + worthF base b.toNat else n) > 9007199254740992 then rcountF base r (-1) else rcountF base r (if n ≥ 0 then n * base + worthF base b.toNat else n)
def rcount2 (base : Int) (l : List UInt8) : Int × Bool := match rcountF base l 0 with
  | some n => (n, decide (l ≠ []))
  | none => (0, false)
attribute [local irreducible] G GC GQ GA GAop Calls IntKind.wrap Int.decLt Int.decLe
section
variable (w : World) (μ : Mem) (hμ : MOk μ w)
include hμ
end
end Go.Proofs.YtmihpkdhfomcgaaDoor
namespace Go.Proofs.YtmihpkdhfomcgaaDoor
open Go.RowKit Go.Vcg
def rnumOr (r : Int × Bool) (sign : Int) : V := if r.2 = true ∧ 0 ≤ r.1 then ofF (sign * r.1) else nanV
def rreadT (t : List UInt8) : V :=
  if t = [] then ofF 0 else if 2 < t.length ∧ t[0]? = some 48 ∧ (t[1]? = some 120 ∨ t[1]? = some 88) then rnumOr (rcount2 16 (t.drop 2)) 1
  else rnumOr (rcount2 10 (if t.head? = some 45 ∨ t.head? = some 43 then t.drop 1 else t)) (if t.head? = some 45 then -1 else 1)
theorem rc_neg (base : Int) : ∀ (l : List UInt8), rcountF base l (-1) = none ∨ rcountF base l (-1) = some (-1)
  | [] => .inr rfl
  | b :: l => by
    rw [rcountF]
    split
    · exact .inl rfl
    · rw [if_neg (show ¬ (-1 : Int) ≥ 0 by omega), if_neg (by omega)]
      exact rc_neg base l
theorem rc_some (base : Int) (hb : base = 10 ∨ base = 16) : ∀ (l : List UInt8) (n m : Int), 0 ≤ n → countF base l n = some m → rcountF base l n = some m
  | [], n, m, _, h => h
  | b :: l, n, m, h0, h => by
    rw [countF] at h
    split at h
    · cases h
    · rename_i hd
      split at h
      · cases h
      · rename_i hm
        have hlo := digitF_lo (c := b.toNat) (by omega)
        have hw : worthF base b.toNat = digitF b.toNat := by unfold worthF; rw [if_neg hd]
        have hk : 0 ≤ n * base := by rcases hb with rfl | rfl <;> omega
        rw [rcountF, hw, if_neg (by omega), if_pos (show n ≥ 0 by omega), if_neg hm]
        exact rc_some base hb l _ m (by omega) h
theorem rc_none (base : Int) (hb : base = 10 ∨ base = 16) : ∀ (l : List UInt8) (n : Int), 0 ≤ n → countF base l n = none → rcountF base l n = none ∨ rcountF base l n = some (-1)
  | [], n, _, h => by simp [countF] at h
  | b :: l, n, h0, h => by
    rw [countF] at h
    have hlo := digitF_lo (c := b.toNat) (by omega)
    have hk : 0 ≤ n * base := by rcases hb with rfl | rfl <;> omega
    split at h
    · rename_i hd
      have hw : worthF base b.toNat = -1 := by unfold worthF; rw [if_pos hd]
      rw [rcountF, hw, if_pos (by omega)]
      exact .inl rfl
    · rename_i hd
      have hw : worthF base b.toNat = digitF b.toNat := by unfold worthF; rw [if_neg hd]
      split at h
      · rename_i hm
        rw [rcountF, hw, if_neg (by omega), if_pos (show n ≥ 0 by omega), if_pos hm]
        exact rc_neg base l
      · rename_i hm
        rw [rcountF, hw, if_neg (by omega), if_pos (show n ≥ 0 by omega), if_neg hm]
        exact rc_none base hb l _ (by omega) h
theorem num_eq (base : Int) (hb : base = 10 ∨ base = 16) (l : List UInt8) (sign : Int) : rnumOr (rcount2 base l) sign = numOr (count2 base l) sign := by
  have hlo := count2_lo base l hb
  unfold rnumOr numOr
  cases h : countF base l 0 with
  | some m =>
    have h' := rc_some base hb l 0 m (by omega) h
    have e1 : count2 base l = (m, decide (l ≠ [])) := by unfold count2; rw [h]
    have e2 : rcount2 base l = (m, decide (l ≠ [])) := by unfold rcount2; rw [h']
    rw [e1] at hlo
    rw [e1, e2]
    by_cases hl : l ≠ []
    · rw [if_pos ⟨decide_eq_true hl, hlo.1⟩, if_pos (decide_eq_true hl)]
    · simp [hl]
  | none =>
    have e1 : count2 base l = (0, false) := by unfold count2; rw [h]
    rw [e1]
    rcases rc_none base hb l 0 (by omega) h with h' | h'
    · have e2 : rcount2 base l = (0, false) := by unfold rcount2; rw [h']
      rw [e2]; simp
    · have e2 : rcount2 base l = (-1, decide (l ≠ [])) := by unfold rcount2; rw [h']
      rw [e2]; simp
theorem take2 {t : List UInt8} {a b : UInt8} : t.take 2 = [a, b] ↔ t[0]? = some a ∧ t[1]? = some b := by
  match t with
  | [] => simp
  | [x] => simp
  | x :: y :: r => simp
theorem rread_eq (t : List UInt8) : rreadT t = readT t := by
  unfold rreadT readT
  by_cases h0 : t = []
  · rw [if_pos h0, if_pos h0]
  · rw [if_neg h0, if_neg h0]
    rw [num_eq 16 (.inr rfl), num_eq 10 (.inl rfl)]
    by_cases h16 : t.take 2 = [48, 120] ∨ t.take 2 = [48, 88]
    · rw [if_pos h16]
      have h16' := h16
      rw [take2, take2] at h16'
      by_cases hl : 2 < t.length
      · rw [if_pos ⟨hl, by rcases h16' with h | h <;> exact h.1, by rcases h16' with h | h; exact .inl h.2; exact .inr h.2⟩]
      · rw [if_neg (fun h => hl h.1)]
        have hd : t.drop 2 = [] := List.drop_of_length_le (by omega)
        have ht : t = t.take 2 := (List.take_of_length_le (by omega)).symm
        rw [hd]
        rcases h16 with h | h
        · rw [h] at ht; subst ht; rfl
        · rw [h] at ht; subst ht; rfl
    · rw [if_neg h16, if_neg (fun h => h16 (by rw [take2, take2]; rcases h.2.2 with e | e; exact .inl ⟨h.2.1, e⟩; exact .inr ⟨h.2.1, e⟩))]
def rdrop (p : UInt8 → Bool) (l : List UInt8) : List UInt8 := (l.reverse.dropWhile p).reverse
theorem rdrop_cons (p : UInt8 → Bool) (a : UInt8) (r : List UInt8) : rdrop p (a :: r) = if rdrop p r = [] then (if p a then [] else [a]) else a :: rdrop p r := by
  unfold rdrop
  rw [List.reverse_cons, List.dropWhile_append]
  by_cases h : r.reverse.dropWhile p = []
  · rw [h]
    simp only [List.isEmpty_nil, if_true, List.reverse_nil]
    cases hp : p a <;> simp [List.dropWhile, hp]
  · have : (r.reverse.dropWhile p).isEmpty = false := by simpa using h
    rw [this, if_neg (by simp), if_neg (by simpa using h)]
    simp
theorem drop_comm (p : UInt8 → Bool) : ∀ l : List UInt8, rdrop p (l.dropWhile p) = (rdrop p l).dropWhile p
  | [] => rfl
  | a :: r => by
    have ih := drop_comm p r
    rw [rdrop_cons]
    cases hp : p a
    · rw [List.dropWhile_cons_of_neg (by simp [hp]), rdrop_cons]
      split
      · simp [hp]
      · rw [List.dropWhile_cons_of_neg (by simp [hp])]
    · rw [List.dropWhile_cons_of_pos hp, ih]
      split
      · rename_i h; rw [h]; simp
      · rw [List.dropWhile_cons_of_pos hp]
theorem trim_eq (l : List UInt8) : rdrop (cutB.contains ·) (l.dropWhile (cutB.contains ·)) = Lib.trimS l cutB := drop_comm _ l
attribute [local irreducible] G GC GQ GA GAop Calls IntKind.wrap Int.decLt Int.decLe
theorem rnumOr_t {r : Int × Bool} {sign : Int} (h : r.2 = true) (h' : 0 ≤ r.1) : rnumOr r sign = ofF (sign * r.1) := by unfold rnumOr; rw [if_pos ⟨h, h'⟩]
theorem rnumOr_f {r : Int × Bool} {sign : Int} (h : r.2 = false ∨ r.1 < 0) : rnumOr r sign = nanV := by
  unfold rnumOr
  rw [if_neg]
  rintro ⟨h1, h2⟩
  rcases h with h | h
  · rw [h1] at h; cases h
  · omega
theorem dropWhile_head {s : ByteArray} (h : 0 < s.size) (hb : blankF (bAt s 0) = true) : (bl s).dropWhile (cutB.contains ·) = (bl (s.extract 1 s.size)).dropWhile (cutB.contains ·) := by
  obtain ⟨b, h1, h2⟩ := bl_at h
  rw [h2, blank_cut] at hb
  have e : bl s = b :: (bl s).drop 1 := by
    have := drop_cons h1
    simpa using this
  have e2 : bl (s.extract 1 s.size) = (bl s).drop 1 := by
    rw [bl_extract]
    exact List.take_of_length_le (by rw [List.length_drop, bl_len]; omega)
  rw [e2]
  conv => lhs; rw [e]
  rw [List.dropWhile_cons_of_pos hb]
theorem dropWhile_stop {s : ByteArray} (h : s.size = 0 ∨ blankF (bAt s 0) = false) : (bl s).dropWhile (cutB.contains ·) = bl s := by
  by_cases h0 : 0 < s.size
  · have hb := h.resolve_left (by omega)
    obtain ⟨b, h1, h2⟩ := bl_at h0
    rw [h2, blank_cut] at hb
    have e : bl s = b :: (bl s).drop 1 := by
      have := drop_cons h1
      simpa using this
    rw [e, List.dropWhile_cons_of_neg (by simp only [hb]; decide)]
  · have : bl s = [] := List.eq_nil_of_length_eq_zero (by rw [bl_len]; omega)
    rw [this]; rfl
theorem rdrop_last {s : ByteArray} (h : 0 < s.size) (hb : blankF (bAt s (s.size - 1)) = true) : rdrop (cutB.contains ·) (bl s) = rdrop (cutB.contains ·) (bl (s.extract 0 (s.size - 1))) := by
  obtain ⟨b, h1, h2⟩ := bl_at (i := s.size - 1) (s := s) (by omega)
  rw [h2, blank_cut] at hb
  have e2 : bl (s.extract 0 (s.size - 1)) = (bl s).take (s.size - 1) := by
    rw [bl_extract]; simp
  have e : bl s = (bl s).take (s.size - 1) ++ [b] := by
    have := List.take_append_drop (s.size - 1) (bl s)
    rw [drop_cons h1, List.drop_of_length_le (by rw [bl_len]; omega)] at this
    exact this.symm
  rw [e2]
  conv => lhs; rw [e]
  unfold rdrop
  rw [List.reverse_append]
  show ((b :: List.reverse ((bl s).take (s.size - 1))).dropWhile _).reverse = _
  rw [List.dropWhile_cons_of_pos hb]
theorem rdrop_stop {s : ByteArray} (h : s.size = 0 ∨ blankF (bAt s (s.size - 1)) = false) : rdrop (cutB.contains ·) (bl s) = bl s := by
  by_cases h0 : 0 < s.size
  · have hb := h.resolve_left (by omega)
    obtain ⟨b, h1, h2⟩ := bl_at (i := s.size - 1) (s := s) (by omega)
    rw [h2, blank_cut] at hb
    have e : bl s = (bl s).take (s.size - 1) ++ [b] := by
      have := List.take_append_drop (s.size - 1) (bl s)
      rw [drop_cons h1, List.drop_of_length_le (by rw [bl_len]; omega)] at this
      exact this.symm
    rw [e]
    unfold rdrop
    rw [List.reverse_append]
    show ((b :: List.reverse ((bl s).take (s.size - 1))).dropWhile _).reverse = _
    rw [List.dropWhile_cons_of_neg (by simp only [hb]; decide)]
    simp
  · have : bl s = [] := List.eq_nil_of_length_eq_zero (by rw [bl_len]; omega)
    rw [this]; rfl
end Go.Proofs.YtmihpkdhfomcgaaDoor
namespace Go.Proofs.YtmihpkdhfomcgaaDoor
open Go.RowKit Go.Vcg
attribute [local irreducible] G GC GQ GA GAop Calls IntKind.wrap Int.decLt Int.decLe
theorem ext_size (s : ByteArray) (a b : Nat) : (s.extract a b).size ≤ s.size := by
  rw [← bl_len, bl_extract, List.length_take, List.length_drop, bl_len]; omega
theorem ext1 (s : ByteArray) (h : 0 < s.size) : (s.extract 1 s.size).size < s.size := by
  rw [← bl_len, bl_extract, List.length_take, List.length_drop, bl_len]; omega
theorem ext0 (s : ByteArray) (h : 0 < s.size) : (s.extract 0 (s.size - 1)).size < s.size := by
  rw [← bl_len, bl_extract, List.length_take, List.length_drop, bl_len]; omega
theorem size0 {s : ByteArray} : s.size = 0 ↔ s = ⟨#[]⟩ := by
  rw [bl_empty_iff, ← bl_len]
  exact List.length_eq_zero_iff
theorem rcount2_hi (base : Int) (hb : base = 10 ∨ base = 16) (l : List UInt8) : -1 ≤ (rcount2 base l).1 ∧ (rcount2 base l).1 ≤ 9007199254740992 := by
  have key : ∀ (l : List UInt8) (n : Int), -1 ≤ n → n ≤ 9007199254740992 → ∀ m, rcountF base l n = some m → -1 ≤ m ∧ m ≤ 9007199254740992 := by
    intro l
    induction l with
    | nil => intro n h0 h1 m h; simp only [rcountF, Option.some.injEq] at h; omega
    | cons b l ih =>
      intro n h0 h1 m h
      rw [rcountF] at h
      by_cases hw : worthF base b.toNat < 0
      · rw [if_pos hw] at h; cases h
      · rw [if_neg hw] at h
        by_cases hn : n ≥ 0
        · rw [if_pos hn] at h
          have hk : 0 ≤ n * base := by rcases hb with rfl | rfl <;> omega
          by_cases hm : n * base + worthF base b.toNat > 9007199254740992
          · rw [if_pos hm] at h
            exact ih _ (by omega) (by omega) m h
          · rw [if_neg hm] at h
            exact ih _ (by omega) (by omega) m h
        · rw [if_neg hn, if_neg (by omega)] at h
          exact ih _ (by omega) (by omega) m h
  unfold rcount2
  split
  · rename_i n h; exact key l 0 (by omega) (by omega) n h
  · simp
end Go.Proofs.YtmihpkdhfomcgaaDoor
namespace Go.Proofs.YtmihpkdhfomcgaaDoor
open Go.RowKit Go.Vcg
def wholeF (v : V) : Bool := decide (v.k = 3) && (decide (v.s = ⟨#[]⟩) && inF v.n)
theorem inF_iff {n : Int} : inF n = true ↔ -9007199254740992 ≤ n ∧ n ≤ 9007199254740992 := by simp [inF]
theorem wholeF_n {v : V} (h : wholeF v = true) : -9007199254740992 ≤ v.n ∧ v.n ≤ 9007199254740992 := by
  unfold wholeF at h
  simp only [Bool.and_eq_true] at h
  exact inF_iff.1 h.2.2
def isF (v : V) : Bool := wholeF v || eqVs (encV v) (encV nanV)
def twoF (g : Int → Int → V) (a b : V) : V := if wholeF a = true ∧ wholeF b = true then g a.n b.n else nanV
def addG (x y : Int) : V := ofF (x + y)
def subG (x y : Int) : V := ofF (x - y)
def mulG (x y : Int) : V := ofF (x * y)
def divG (x y : Int) : V := if y = 0 then nanV else ofF (x.tdiv y)
def remG (x y : Int) : V := if y = 0 then nanV else ofF (x.tmod y)
theorem ofF_nan {n : Int} (h : ¬ (-9007199254740992 ≤ n ∧ n ≤ 9007199254740992)) : ofF n = nanV := by
  unfold ofF
  rw [if_neg (fun h' => h (inF_iff.1 h'))]
theorem tdiv_bound {x y : Int} (h : -9007199254740992 ≤ x ∧ x ≤ 9007199254740992) (hy : y ≠ 0) : -9007199254740992 ≤ x.tdiv y ∧ x.tdiv y ≤ 9007199254740992 := by
  have h1 : (x.tdiv y).natAbs ≤ x.natAbs := by rw [Int.natAbs_tdiv]; exact Nat.div_le_self _ _
  omega
theorem tmod_bound {x y : Int} (h : -9007199254740992 ≤ x ∧ x ≤ 9007199254740992) : -9007199254740992 ≤ x.tmod y ∧ x.tmod y ≤ 9007199254740992 := by
  have h1 : (x.tmod y).natAbs ≤ x.natAbs := by rw [Int.natAbs_tmod]; exact Nat.mod_le _ _
  omega
def absF (n : Int) : Int := if n < -n then -n else n
theorem absF_natAbs (n : Int) : absF n = n.natAbs := by unfold absF; split <;> omega
theorem mul_guard {x y : Int} (hx : x ≠ 0) (h : ¬ absF y > (9007199254740992 : Int).tdiv (absF x)) : -9007199254740992 ≤ x * y ∧ x * y ≤ 9007199254740992 := by
  rw [absF_natAbs, absF_natAbs] at h
  have h1 : ((9007199254740992 : Int).tdiv (x.natAbs : Int)) = ((9007199254740992 / x.natAbs : Nat) : Int) := rfl
  rw [h1] at h
  have h2 : y.natAbs ≤ 9007199254740992 / x.natAbs := by omega
  have h3 : y.natAbs * x.natAbs ≤ 9007199254740992 := (Nat.le_div_iff_mul_le (by omega)).1 h2
  have h4 : (x * y).natAbs = y.natAbs * x.natAbs := by rw [Int.natAbs_mul, Nat.mul_comm]
  omega
theorem mul_over {x y : Int} (hx : x ≠ 0) (h : absF y > (9007199254740992 : Int).tdiv (absF x)) : ¬ (-9007199254740992 ≤ x * y ∧ x * y ≤ 9007199254740992) := by
  rw [absF_natAbs, absF_natAbs] at h
  have h1 : ((9007199254740992 : Int).tdiv (x.natAbs : Int)) = ((9007199254740992 / x.natAbs : Nat) : Int) := rfl
  rw [h1] at h
  have h2 : ¬ y.natAbs ≤ 9007199254740992 / x.natAbs := by omega
  have h3 : ¬ y.natAbs * x.natAbs ≤ 9007199254740992 := fun h' => h2 ((Nat.le_div_iff_mul_le (by omega)).2 h')
  have h4 : (x * y).natAbs = y.natAbs * x.natAbs := by rw [Int.natAbs_mul, Nat.mul_comm]
  omega
attribute [local irreducible] G GC GQ GA GAop Calls IntKind.wrap Int.decLt Int.decLe
section
variable (w : World) (μ : Mem) (hμ : MOk μ w)
include hμ
theorem whole_spec (v : V) : Calls Tryd.prog 43 #[.agg (encV v).toArray] w fun e w' => e = .returned (.tuple #[.int .i64 v.n, .bool (wholeF v)]) ∧ Below w.heap.size w w' := by
  refine call_intro Tryd.func43 rfl Tryd.ntmps43 (by simp) hμ ?_
  repeat' (first | refine KK ?_ | refine NB fun b => ?_ | ((refine KB ?_ ?_ <;> intro hp)) | refine KG ?_ | fail)
  refine gc_draw 17 _ (by kernel_rfl) rfl (List.Sublist.cons_cons _ (List.nil_sublist _)) ?_
  all_goals refine DD 0 ?_
  all_goals refine DD 1 ?_
  all_goals refine DD 2 ?_
  all_goals refine DD 3 ?_
  all_goals refine DD 4 ?_
  all_goals refine DD 5 ?_
  all_goals (try (refine D7 6 ?_; (repeat' (first | refine KO ?_ | (refine KB ?_ ?_ <;> intro hp)))))
  all_goals refine DD 6 ?_
  all_goals refine DD 7 ?_
  all_goals refine DD 8 ?_
  all_goals refine DD 9 ?_
  all_goals refine DD 10 ?_
  all_goals (try (refine D7 11 ?_; (repeat' (first | refine KO ?_ | (refine KB ?_ ?_ <;> intro hp)))))
  all_goals refine DD 11 ?_
  all_goals refine DD 12 ?_
  all_goals (first | (refine D3 13 ?_; refine D5 ?_; (with_reducible apply C1); exact rfl; exact EN; exact fun w μc hw hse => in_spec v.n w μc hw; refine D9 ?_) | refine D3 13 (D6 ?_))
  all_goals refine DD 14 ?_
  all_goals refine DD 15 ?_
  all_goals refine DD 16 ?_
  all_goals refine D8 ?_
  all_goals repeat' (first | refine KK ?_ | refine NB fun b => ?_ | ((refine KB ?_ ?_ <;> intro hp)) | refine KG ?_ | fail)
  all_goals refine ret_s2 rfl rfl rfl rfl ?_
  all_goals unfold wholeF
  all_goals simp_all
theorem whole_at (v : V) {c : Bool} (h : wholeF v = c) : Calls Tryd.prog 43 #[.agg (encV v).toArray] w fun e w' => e = .returned (.tuple #[.int .i64 v.n, .bool c]) ∧ Below w.heap.size w w' := by
  have := whole_spec w μ hμ v
  rwa [h] at this
end
end Go.Proofs.YtmihpkdhfomcgaaDoor
namespace Go.Proofs.YtmihpkdhfomcgaaDoor
open Go.RowKit Go.Vcg
def negF (a : V) : V := twoF subG (ofF 0) a
def lessF (a b : V) : Bool × Bool := if wholeF a = true ∧ wholeF b = true then (decide (a.n < b.n), true) else (false, false)
attribute [local irreducible] G GC GQ GA GAop Calls IntKind.wrap Int.decLt Int.decLe
end Go.Proofs.YtmihpkdhfomcgaaDoor
namespace Go.Proofs.YtmihpkdhfomcgaaDoor
open Go.RowKit Go.Vcg
def tabName : String := ((Rows.outcomeBackRow.laid[2]?).map (·.1)).getD ""
def TabOk (μ : Mem) : Prop := ∀ w, MOk μ w → Lib.TabIs Tryd.prog w tabName .u64 Lib.pow10Tab
theorem TabOk.mono {μ μ' : Mem} (h : TabOk μ) (hle : MLe μ μ') : TabOk μ' := fun w hw => h w (fun b o e => hw b o (hle b o e))
def nanS : ByteArray := ⟨#[78, 97, 78]⟩
def textF (v : V) : ByteArray := if wholeF v = true then ⟨(Lib.itoa v.n).toArray⟩ else nanS
theorem exDiv : twoF divG ⟨3, -7, noS⟩ ⟨3, 2, noS⟩ = ⟨3, -3, noS⟩ := by rfl
theorem exRem : twoF remG ⟨3, -7, noS⟩ ⟨3, 2, noS⟩ = ⟨3, -1, noS⟩ := by rfl
theorem exRead1 : readF (bl ⟨#[32, 48, 120, 49, 70]⟩) = ⟨3, 31, noS⟩ := by rfl
theorem exRead2 : readF (bl ⟨#[32, 45, 48, 120, 49]⟩) = nanV := by rfl
theorem exText : textF ⟨3, -7, noS⟩ = ⟨#[45, 55]⟩ := by
  unfold textF
  rw [if_pos (by decide)]
  have : Lib.itoa (-7) = [45, 55] := by
    unfold Lib.itoa
    rw [if_pos (by decide)]
    rw [show (-7 : Int).natAbs = 7 from rfl, Lib.decDigits, dif_pos (by decide)]
    rfl
  show (⟨(Lib.itoa (-7)).toArray⟩ : ByteArray) = _
  rw [this]
attribute [local irreducible] G GC GQ GA GAop Calls IntKind.wrap Int.decLt Int.decLe
theorem itoa_spec (n : Int) (hn : -9007199254740992 ≤ n ∧ n ≤ 9007199254740992) (w : World) (ht : Lib.TabIs Tryd.prog w tabName .u64 Lib.pow10Tab) :
    Calls Tryd.prog 44 #[.int .i64 n] w fun e w' => e = .returned (.string ⟨(Lib.itoa n).toArray⟩) ∧ Below w.heap.size w w' :=
  (Any.strconv_Itoa Tryd.laysM171 n (by omega) (by omega) w ht).mono fun e w' ⟨he, k, os, hw⟩ => ⟨he, by rw [hw]; exact Lib.below_grow _ w (Nat.le_refl _) k os⟩
section
variable (w : World) (μ : Mem) (hμ : MOk μ w) (ht : TabOk μ)
include hμ ht
theorem text_spec (v : V) : Calls Tryd.prog 31 #[.agg (encV v).toArray] w fun e w' => e = .returned (.string (textF v)) ∧ Below w.heap.size w w' := by
  refine call_intro Tryd.func31 rfl Tryd.ntmps31 (by simp) hμ ?_
  cases hw : wholeF v
  · have hF : textF v = nanS := by unfold textF; rw [if_neg (by simp [hw])]
    rw [hF]
    repeat' (first | refine KO ?_ | ((with_reducible apply F1 43); exact rfl; exact EN; exact fun w μc hw' hse => whole_at w μc hw' v hw) | refine KI ?_ | refine NB fun b => ?_ | ((refine KB ?_ ?_ <;> intro hp)) | refine KG ?_ | fail)
    exact ret_s rfl rfl rfl
  · have hF : textF v = ⟨(Lib.itoa v.n).toArray⟩ := by unfold textF; rw [if_pos hw]
    rw [hF]
    have hn := wholeF_n hw
    repeat' (first | refine KO ?_ | ((with_reducible apply F1 43); exact rfl; exact EN; exact fun w μc hw' hse => whole_at w μc hw' v hw) | ((with_reducible apply F1 44); exact rfl; exact EN; exact fun w μc hw' hse => itoa_spec v.n hn w ((ht.mono hse.le) w hw')) | refine KI ?_ | refine NB fun b => ?_ | ((refine KB ?_ ?_ <;> intro hp)) | refine KG ?_ | fail)
    exact ret_s rfl rfl rfl
end
end Go.Proofs.YtmihpkdhfomcgaaDoor
namespace Go.Proofs.YtmihpkdhfomcgaaDoor
open Go.RowKit Go.Vcg
theorem isF_cases (v : V) : isF v = (decide (v.s = ⟨#[]⟩) && ((decide (v.k = 3) && inF v.n) || (decide (v.k = 4) && decide (v.n = 0)))) := by
  cases v
  rw [Bool.eq_iff_iff]
  simp only [isF, wholeF, eqVs, eqV, nanV, noS, Bool.or_eq_true, Bool.and_eq_true, decide_eq_true_eq]
  constructor
  · rintro (⟨h1, h2, h3⟩ | ⟨h1, h2, h3, _⟩)
    · exact ⟨h2, .inl ⟨h1, h3⟩⟩
    · exact ⟨of_decide_eq_true h3, .inr ⟨of_decide_eq_true h1, of_decide_eq_true h2⟩⟩
  · rintro ⟨h1, ⟨h2, h3⟩ | ⟨h2, h3⟩⟩
    · exact .inl ⟨h2, h1, h3⟩
    · exact .inr ⟨decide_eq_true h2, decide_eq_true h3, decide_eq_true h1, trivial⟩
theorem isF_whole (v : V) : (isF v && decide (v.k = 3)) = wholeF v := by
  rw [isF_cases]
  unfold wholeF
  rw [Bool.eq_iff_iff]
  simp only [Bool.or_eq_true, Bool.and_eq_true, decide_eq_true_eq]
  constructor
  · rintro ⟨⟨h1, ⟨h2, h3⟩ | ⟨h2, h3⟩⟩, h4⟩
    · exact ⟨h2, h1, h3⟩
    · omega
  · rintro ⟨h1, h2, h3⟩
    exact ⟨⟨h2, .inl ⟨h1, h3⟩⟩, h1⟩
theorem digits_len (n : Nat) : (Lib.decDigits n).length ≤ n + 1 := by
  induction n using Nat.strongRecOn with
  | _ n ih =>
    rw [Lib.decDigits]
    split
    · simp
    · have := ih (n / 10) (by omega)
      simp; omega
def tenS : ByteArray := ⟨#[48, 49, 50, 51, 52, 53, 54, 55, 56, 57]⟩
theorem ten_at (k : Nat) (h : k < 10) : tenS.extract k (k + 1) = ⟨#[UInt8.ofNat (48 + k)]⟩ := by
  have : k = 0 ∨ k = 1 ∨ k = 2 ∨ k = 3 ∨ k = 4 ∨ k = 5 ∨ k = 6 ∨ k = 7 ∨ k = 8 ∨ k = 9 := by omega
  rcases this with rfl | rfl | rfl | rfl | rfl | rfl | rfl | rfl | rfl | rfl <;> rfl
theorem append_bytes (a b : List UInt8) : (⟨a.toArray⟩ : ByteArray) ++ (⟨b.toArray⟩ : ByteArray) = ⟨(a ++ b).toArray⟩ := by
  apply bl_inj
  simp [bl, ByteArray.data_append]
attribute [local irreducible] G GC GQ GA GAop Calls IntKind.wrap Int.decLt Int.decLe
section
variable (w : World) (μ : Mem) (hμ : MOk μ w)
include hμ
end
end Go.Proofs.YtmihpkdhfomcgaaDoor
namespace Go.Proofs.YtmihpkdhfomcgaaDoor
open Go.RowKit Go.Vcg
theorem count_append (base : Int) : ∀ (l : List UInt8) (b : UInt8) (n : Int), countF base (l ++ [b]) n = match countF base l n with
    | none => none
    | some k => if digitF b.toNat ≥ base then none else if k * base + digitF b.toNat > 9007199254740992 then none else some (k * base + digitF b.toNat)
  | [], b, n => by simp [countF]
  | a :: l, b, n => by
    rw [List.cons_append, countF, countF]
    split
    · rfl
    · split
      · rfl
      · exact count_append base l b _
theorem digit_byte {k : Nat} (h : k < 10) : ((UInt8.ofNat (48 + k)).toNat : Int) = 48 + k := by
  have : (UInt8.ofNat (48 + k)).toNat = 48 + k := by
    rw [UInt8.toNat_ofNat']
    exact Nat.mod_eq_of_lt (by omega)
  omega
theorem digitF_digit {k : Nat} (h : k < 10) : digitF ((UInt8.ofNat (48 + k)).toNat : Int) = k := by
  rw [digit_byte h]
  unfold digitF
  rw [if_pos (by omega)]
  omega
theorem count_digits (m : Nat) : m ≤ 9007199254740992 → countF 10 (Lib.decDigits m) 0 = some (m : Int) := by
  induction m using Nat.strongRecOn with
  | _ m ih =>
    intro hm
    rw [Lib.decDigits]
    split
    · rename_i h
      rw [countF, digitF_digit h, if_neg (by omega), if_neg (by omega), countF]
      congr 1; omega
    · rename_i h
      have h10 : m % 10 < 10 := by omega
      rw [count_append, ih (m / 10) (by omega) (by omega)]
      simp only [digitF_digit h10]
      rw [if_neg (by omega), if_neg (by omega)]
      congr 1; omega
theorem digits_mem (m : Nat) : ∀ b ∈ Lib.decDigits m, 48 ≤ b.toNat ∧ b.toNat ≤ 57 := by
  induction m using Nat.strongRecOn with
  | _ m ih =>
    intro b hb
    rw [Lib.decDigits] at hb
    split at hb
    · rename_i h
      simp only [List.mem_singleton] at hb
      have := digit_byte h
      rw [hb]; omega
    · rcases List.mem_append.1 hb with hb | hb
      · exact ih (m / 10) (by omega) b hb
      · simp only [List.mem_singleton] at hb
        have := digit_byte (k := m % 10) (by omega)
        rw [hb]; omega
theorem digits_ne (m : Nat) : Lib.decDigits m ≠ [] := by
  rw [Lib.decDigits]
  split <;> simp
theorem drop_none {p : UInt8 → Bool} : ∀ {l : List UInt8}, (∀ b ∈ l, p b = false) → l.dropWhile p = l
  | [], _ => rfl
  | a :: l, h => List.dropWhile_cons_of_neg (by rw [h a (by simp)]; decide)
theorem trim_none {l : List UInt8} (h : ∀ b ∈ l, cutB.contains b = false) : Lib.trimS l cutB = l := by
  unfold Lib.trimS Lib.trimLeftS Lib.trimRightS
  rw [drop_none (p := (cutB.contains ·)) (l := l.reverse) (fun b hb => h b (List.mem_reverse.1 hb)), List.reverse_reverse, drop_none h]
theorem cut_of {b : UInt8} (h : 45 = b.toNat ∨ 48 ≤ b.toNat ∧ b.toNat ≤ 57) : cutB.contains b = false := by
  rw [← blank_cut]
  unfold blankF
  simp
  omega
theorem numOr_mk (l : List UInt8) (m : Nat) (s : Int) (hl : l ≠ []) (h : countF 10 l 0 = some (m : Int)) : numOr (count2 10 l) s = ofF (s * m) := by
  have e1 : count2 10 l = ((m : Int), true) := by unfold count2; rw [h]; simp [hl]
  rw [e1]; rfl
theorem read_itoa (n : Int) (hn : -9007199254740992 ≤ n ∧ n ≤ 9007199254740992) : readF (Lib.itoa n) = ofF n := by
  unfold readF Lib.itoa
  split
  · rename_i h0
    have hm := digits_mem n.natAbs
    rw [trim_none (fun b hb => by
      rcases List.mem_cons.1 hb with rfl | hb
      · exact cut_of (.inl rfl)
      · exact cut_of (.inr (hm b hb)))]
    unfold readT
    rw [if_neg (by simp), if_neg (by intro h; rcases h with h | h <;> simp at h), if_pos (.inl rfl), if_pos (show (45 :: Lib.decDigits n.natAbs).head? = some 45 from rfl)]
    rw [List.drop_one, List.tail_cons, numOr_mk _ _ _ (digits_ne _) (count_digits _ (by omega))]
    congr 1; omega
  · rename_i h0
    have hm := digits_mem n.toNat
    have hne := digits_ne n.toNat
    have hc := count_digits n.toNat (by omega)
    rw [trim_none (fun b hb => cut_of (.inr (hm b hb)))]
    generalize Lib.decDigits n.toNat = l at *
    unfold readT
    have hhd : ∀ c : UInt8, (c.toNat < 48 ∨ 57 < c.toNat) → l.head? ≠ some c := fun c hcc h => by
      have := hm c (List.mem_of_head? h)
      omega
    rw [if_neg hne, if_neg (by
      rw [take2, take2]
      rintro (⟨_, h⟩ | ⟨_, h⟩)
      · have := hm _ (List.mem_of_getElem? h)
        revert this; decide
      · have := hm _ (List.mem_of_getElem? h)
        revert this; decide)]
    rw [if_neg (fun h => by rcases h with h | h; exact hhd 45 (by decide) h; exact hhd 43 (by decide) h), if_neg (hhd 45 (by decide)), numOr_mk _ _ _ hne hc]
    congr 1; omega
theorem text_read (n : Int) : readF (bl (textF (ofF n))) = ofF n := by
  cases h : inF n
  · have e : ofF n = nanV := by unfold ofF; rw [h]; rfl
    rw [e]; rfl
  · have e : ofF n = ⟨3, n, noS⟩ := by unfold ofF; rw [h]; rfl
    have hw : wholeF ⟨3, n, noS⟩ = true := by unfold wholeF; simp [h, noS]
    have ht : bl (textF (ofF n)) = Lib.itoa n := by rw [e]; unfold textF; rw [if_pos hw]
    rw [ht, read_itoa n (inF_iff.1 h)]
theorem ofF_in {n : Int} (h : -9007199254740992 ≤ n ∧ n ≤ 9007199254740992) : ofF n = ⟨3, n, noS⟩ := by unfold ofF; rw [if_pos (inF_iff.2 h)]
theorem whole_mk {n : Int} (h : -9007199254740992 ≤ n ∧ n ≤ 9007199254740992) : wholeF ⟨3, n, noS⟩ = true := by unfold wholeF; simp [inF_iff.2 h, noS]
theorem two_mk {g : Int → Int → V} {a b : Int} (ha : -9007199254740992 ≤ a ∧ a ≤ 9007199254740992) (hb : -9007199254740992 ≤ b ∧ b ≤ 9007199254740992) : twoF g ⟨3, a, noS⟩ ⟨3, b, noS⟩ = g a b := by
  unfold twoF; rw [if_pos ⟨whole_mk ha, whole_mk hb⟩]
theorem isF_of (n : Int) : isF (ofF n) = true := by
  unfold ofF
  cases h : inF n
  · rw [if_neg (by simp)]; rfl
  · rw [if_pos rfl]; unfold isF wholeF; simp [h, noS]
theorem isF_num (r : Int × Bool) (s : Int) : isF (numOr r s) = true := by
  unfold numOr
  split
  · exact isF_of _
  · rfl
theorem isF_read (l : List UInt8) : isF (readF l) = true := by
  unfold readF readT
  split
  · exact isF_of _
  · split
    · exact isF_num _ _
    · exact isF_num _ _
theorem itoa_len (n : Int) (hn : -9007199254740992 ≤ n ∧ n ≤ 9007199254740992) : (Lib.itoa n).length ≤ 9007199254740994 := by
  unfold Lib.itoa
  split
  · have := digits_len n.natAbs
    simp; omega
  · have := digits_len n.toNat
    omega
theorem text_size (v : V) : (textF v).size ≤ 9223372036854775807 := by
  unfold textF
  cases h : wholeF v
  · rw [if_neg (by simp)]; decide
  · rw [if_pos rfl]
    have := itoa_len v.n (wholeF_n h)
    have h1 : (⟨(Lib.itoa v.n).toArray⟩ : ByteArray).size = (Lib.itoa v.n).length := by simp [ByteArray.size]
    omega
end Go.Proofs.YtmihpkdhfomcgaaDoor
