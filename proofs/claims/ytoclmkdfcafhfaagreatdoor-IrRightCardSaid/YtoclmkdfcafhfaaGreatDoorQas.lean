/- Package ir: the text field of a node. -/
import Derived.Test.YtoclmkdfcafhfaaGreatDoorQaq
import Derived.Test.YtoclmkdfcafhfaaGreatDoorQar
set_option maxRecDepth 20000
set_option maxHeartbeats 2000000
namespace Go.Proofs.YtoclmkdfcafhfaaGreatDoor
section
open Go.RowKit Go.Vcg Ou
theorem of_data (s : ByteArray) : ofB s.data.toList = s := rfl
theorem len_data (s : ByteArray) : s.data.toList.length = s.size := Array.length_toList
theorem unW_join : ofB (joinS Iq.unW) = ⟨#[45, 32, 43, 32, 33, 32, 126, 32, 118, 111, 105, 100]⟩ := by decide +kernel
theorem unW_ok : (∀ y ∈ Iq.unW, Fr 32 y) ∧ [] ∉ Iq.unW ∧ Iq.unW ≠ [] ∧ (joinS Iq.unW).length ≤ 1000000 := by unfold Fr; decide +kernel
theorem binW_join : ofB (joinS Iq.binW) = ⟨#[124, 32, 94, 32, 38, 32, 61, 61, 32, 33, 61, 32, 61, 61, 61, 32, 33, 61, 61, 32, 60, 32, 62, 32, 60, 61, 32, 62, 61, 32, 105, 110, 115, 116, 97, 110, 99, 101, 111, 102, 32, 105, 110, 32, 60, 60, 32, 62, 62, 32, 43, 32, 45, 32, 42, 32, 47, 32, 37]⟩ := by decide +kernel
theorem binW_ok : (∀ y ∈ Iq.binW, Fr 32 y) ∧ [] ∉ Iq.binW ∧ Iq.binW ≠ [] ∧ (joinS Iq.binW).length ≤ 1000000 := by unfold Fr; decide +kernel
theorem logW_join : ofB (joinS Iq.logW) = ⟨#[38, 38, 32, 124, 124, 32, 63, 63]⟩ := by decide +kernel
theorem logW_ok : (∀ y ∈ Iq.logW, Fr 32 y) ∧ [] ∉ Iq.logW ∧ Iq.logW ≠ [] ∧ (joinS Iq.logW).length ≤ 1000000 := by unfold Fr; decide +kernel
attribute [local irreducible] G GC GQ GA GAop Calls IntKind.wrap Int.decLt Int.decLe
theorem pform_b (s : ByteArray) (hs : s.size ≤ 1000000) (w : World) (μ : Mem) (hμ : MOk μ w) : Calls Tryz.prog 135 #[.string s] w fun e w' => e = .returned (.bool (Iq.formB s.data.toList)) ∧ Below w.heap.size w w' := by
  have h := pform_spec s.data.toList (by rw [len_data]; exact hs) w μ hμ
  rw [of_data] at h
  exact h
theorem pamong_unW (s : ByteArray) (hs : s.size ≤ 1000000) (w : World) (μ : Mem) (hμ : MOk μ w) (hm : MaxQ μ) : Calls Tryz.prog 136 #[.string s, .string ⟨#[45, 32, 43, 32, 33, 32, 126, 32, 118, 111, 105, 100]⟩] w fun e w' => e = .returned (.bool (Iq.unW.contains s.data.toList)) ∧ Below w.heap.size w w' := by
  obtain ⟨h1, h2, h3, h4⟩ := unW_ok
  have h := pamong_spec s.data.toList Iq.unW h1 h2 h3 (by rw [len_data]; exact hs) h4 w μ hμ hm
  rw [of_data, unW_join] at h
  exact h
theorem pamong_binW (s : ByteArray) (hs : s.size ≤ 1000000) (w : World) (μ : Mem) (hμ : MOk μ w) (hm : MaxQ μ) : Calls Tryz.prog 136 #[.string s, .string ⟨#[124, 32, 94, 32, 38, 32, 61, 61, 32, 33, 61, 32, 61, 61, 61, 32, 33, 61, 61, 32, 60, 32, 62, 32, 60, 61, 32, 62, 61, 32, 105, 110, 115, 116, 97, 110, 99, 101, 111, 102, 32, 105, 110, 32, 60, 60, 32, 62, 62, 32, 43, 32, 45, 32, 42, 32, 47, 32, 37]⟩] w fun e w' => e = .returned (.bool (Iq.binW.contains s.data.toList)) ∧ Below w.heap.size w w' := by
  obtain ⟨h1, h2, h3, h4⟩ := binW_ok
  have h := pamong_spec s.data.toList Iq.binW h1 h2 h3 (by rw [len_data]; exact hs) h4 w μ hμ hm
  rw [of_data, binW_join] at h
  exact h
theorem pamong_logW (s : ByteArray) (hs : s.size ≤ 1000000) (w : World) (μ : Mem) (hμ : MOk μ w) (hm : MaxQ μ) : Calls Tryz.prog 136 #[.string s, .string ⟨#[38, 38, 32, 124, 124, 32, 63, 63]⟩] w fun e w' => e = .returned (.bool (Iq.logW.contains s.data.toList)) ∧ Below w.heap.size w w' := by
  obtain ⟨h1, h2, h3, h4⟩ := logW_ok
  have h := pamong_spec s.data.toList Iq.logW h1 h2 h3 (by rw [len_data]; exact hs) h4 w μ hμ hm
  rw [of_data, logW_join] at h
  exact h
theorem ptext_spec (t : T) (u : Value) (hu : u.oneCell' = true) (hs : t.s.size ≤ 1000000) (w : World) (μ : Mem) (hμ : MOk μ w) (hm : MaxQ μ) : Calls Tryz.prog 107 #[.agg (encT t u).toArray] w fun e w' => e = .returned (.bool (Iq.textB t.op t.s.data.toList)) ∧ Below w.heap.size w w' := by
  refine call_intro (args := [.agg (encT t u).toArray]) Tryz.func107 rfl Tryz.ntmps107 (by simp) hμ ?_
  by_cases h0 : t.op = 105
  · have e : Iq.textB t.op t.s.data.toList = decide (t.s.data.toList.length ≤ 65536) := by
      unfold Iq.textB
      rw [if_pos h0]
    rw [e]
    repeat' (first | refine KK ?_ | refine NB fun b => ?_ | (refine KB ?_ ?_ <;> intro hp) | refine KG ?_ | fail)
    all_goals first | (exfalso; first | omega | contradiction | exact absurd ‹_› ‹¬ _›) | exact ret_s rfl rfl rfl | (refine ret_s rfl rfl ?_; congr 1; first | (rw [decide_eq_true (by omega)]; done) | (rw [decide_eq_false (by omega)]; done) | (rw [Bool.eq_iff_iff]; simp; omega) | (simp [*]; done) | (rw [Bool.eq_iff_iff]; simp [ByteArray.size]; omega) | (rw [Bool.eq_iff_iff]; simp [ByteArray.size]; done))
  by_cases h1 : t.op = 111 ∨ t.op = 112 ∨ t.op = 113 ∨ t.op = 114
  · have e : Iq.textB t.op t.s.data.toList = Iq.formB t.s.data.toList := by
      unfold Iq.textB
      rw [if_neg h0, if_pos h1]
    rw [e]
    rcases h1 with h1 | h1 | h1 | h1
    all_goals repeat' (first | refine KO ?_ | ((with_reducible apply F1 135); exact rfl; exact EN; (exact fun w μc hw hse => pform_b _ hs w μc hw)) | refine KI ?_ | refine NB fun b => ?_ | (refine KB ?_ ?_ <;> intro hp) | refine KG ?_ | fail)
    all_goals first | (exfalso; first | omega | contradiction | exact absurd ‹_› ‹¬ _›) | exact ret_s rfl rfl rfl | (refine ret_s rfl rfl ?_; congr 1; first | (rw [decide_eq_true (by omega)]; done) | (rw [decide_eq_false (by omega)]; done) | (rw [Bool.eq_iff_iff]; simp; omega) | (simp [*]; done) | (rw [Bool.eq_iff_iff]; simp [ByteArray.size]; omega) | (rw [Bool.eq_iff_iff]; simp [ByteArray.size]; done))
  by_cases h2 : t.op = 132
  · have e : Iq.textB t.op t.s.data.toList = Iq.unW.contains t.s.data.toList := by
      unfold Iq.textB
      rw [if_neg h0, if_neg h1, if_pos h2]
    rw [e]
    repeat' (first | refine KO ?_ | ((with_reducible apply F1 136); exact rfl; exact EN; (exact fun w μc hw hse => pamong_unW _ hs w μc hw (hm.mono hse.le))) | refine KI ?_ | refine NB fun b => ?_ | (refine KB ?_ ?_ <;> intro hp) | refine KG ?_ | fail)
    all_goals first | (exfalso; first | omega | contradiction | exact absurd ‹_› ‹¬ _›) | exact ret_s rfl rfl rfl | (refine ret_s rfl rfl ?_; congr 1; first | (rw [decide_eq_true (by omega)]; done) | (rw [decide_eq_false (by omega)]; done) | (rw [Bool.eq_iff_iff]; simp; omega) | (simp [*]; done) | (rw [Bool.eq_iff_iff]; simp [ByteArray.size]; omega) | (rw [Bool.eq_iff_iff]; simp [ByteArray.size]; done))
  by_cases h3 : t.op = 133
  · have e : Iq.textB t.op t.s.data.toList = Iq.binW.contains t.s.data.toList := by
      unfold Iq.textB
      rw [if_neg h0, if_neg h1, if_neg h2, if_pos h3]
    rw [e]
    repeat' (first | refine KO ?_ | ((with_reducible apply F1 136); exact rfl; exact EN; (exact fun w μc hw hse => pamong_binW _ hs w μc hw (hm.mono hse.le))) | refine KI ?_ | refine NB fun b => ?_ | (refine KB ?_ ?_ <;> intro hp) | refine KG ?_ | fail)
    all_goals first | (exfalso; first | omega | contradiction | exact absurd ‹_› ‹¬ _›) | exact ret_s rfl rfl rfl | (refine ret_s rfl rfl ?_; congr 1; first | (rw [decide_eq_true (by omega)]; done) | (rw [decide_eq_false (by omega)]; done) | (rw [Bool.eq_iff_iff]; simp; omega) | (simp [*]; done) | (rw [Bool.eq_iff_iff]; simp [ByteArray.size]; omega) | (rw [Bool.eq_iff_iff]; simp [ByteArray.size]; done))
  by_cases h4 : t.op = 134
  · have e : Iq.textB t.op t.s.data.toList = Iq.logW.contains t.s.data.toList := by
      unfold Iq.textB
      rw [if_neg h0, if_neg h1, if_neg h2, if_neg h3, if_pos h4]
    rw [e]
    repeat' (first | refine KO ?_ | ((with_reducible apply F1 136); exact rfl; exact EN; (exact fun w μc hw hse => pamong_logW _ hs w μc hw (hm.mono hse.le))) | refine KI ?_ | refine NB fun b => ?_ | (refine KB ?_ ?_ <;> intro hp) | refine KG ?_ | fail)
    all_goals first | (exfalso; first | omega | contradiction | exact absurd ‹_› ‹¬ _›) | exact ret_s rfl rfl rfl | (refine ret_s rfl rfl ?_; congr 1; first | (rw [decide_eq_true (by omega)]; done) | (rw [decide_eq_false (by omega)]; done) | (rw [Bool.eq_iff_iff]; simp; omega) | (simp [*]; done) | (rw [Bool.eq_iff_iff]; simp [ByteArray.size]; omega) | (rw [Bool.eq_iff_iff]; simp [ByteArray.size]; done))
  have e : Iq.textB t.op t.s.data.toList = t.s.data.toList.isEmpty := by
    unfold Iq.textB
    rw [if_neg h0, if_neg h1, if_neg h2, if_neg h3, if_neg h4]
  rw [e]
  have e1 : (t.s = ⟨#[]⟩) = (t.s.data.toList = []) := of_nil (a := t.s.data.toList)
  by_cases h9 : t.s.data.toList = []
  · have e2 := e1.mpr h9
    rw [h9]
    repeat' (first | refine KK ?_ | refine NB fun b => ?_ | (refine KB ?_ ?_ <;> intro hp) | refine KG ?_ | fail)
    all_goals first | (exfalso; first | omega | contradiction | exact absurd ‹_› ‹¬ _›) | exact ret_s rfl rfl rfl | (refine ret_s rfl rfl ?_; congr 1; first | (rw [decide_eq_true (by omega)]; done) | (rw [decide_eq_false (by omega)]; done) | (rw [Bool.eq_iff_iff]; simp; omega) | (simp [*]; done) | (rw [Bool.eq_iff_iff]; simp [ByteArray.size]; omega) | (rw [Bool.eq_iff_iff]; simp [ByteArray.size]; done))
  · have e2 : ¬ t.s = ⟨#[]⟩ := by rw [e1]; exact h9
    have e3 : t.s.data.toList.isEmpty = false := by simpa using h9
    rw [e3]
    repeat' (first | refine KK ?_ | refine NB fun b => ?_ | (refine KB ?_ ?_ <;> intro hp) | refine KG ?_ | fail)
    all_goals first | (exfalso; first | omega | contradiction | exact absurd ‹_› ‹¬ _›) | exact ret_s rfl rfl rfl | (refine ret_s rfl rfl ?_; congr 1; first | (rw [decide_eq_true (by omega)]; done) | (rw [decide_eq_false (by omega)]; done) | (rw [Bool.eq_iff_iff]; simp; omega) | (simp [*]; done) | (rw [Bool.eq_iff_iff]; simp [ByteArray.size]; omega) | (rw [Bool.eq_iff_iff]; simp [ByteArray.size]; done))
end
section
open Go.RowKit Go.Vcg
attribute [local irreducible] G GC GQ GA GAop Calls IntKind.wrap Int.decLt Int.decLe
theorem pnumb_spec (t : T) (u : Value) (hu : u.oneCell' = true) (f : F) (v : Value) (hv : v.oneCell' = true) (k : Int) (hL : 0 ≤ f.loc ∧ f.loc ≤ 100000) (hk : 0 ≤ k ∧ k ≤ 100000) (w : World) (μ : Mem) (hμ : MOk μ w) : Calls Tryz.prog 109 #[.agg (encT t u).toArray, .agg (encF f v).toArray, .int .i64 k] w fun e w' => e = .returned (.bool (Iq.numbB t.op t.n f.loc k)) ∧ Below w.heap.size w w' := by
  have w1 : IntKind.i64.wrap (f.loc - 1) = f.loc - 1 := wrap_i64 ⟨by omega, by omega⟩
  have w2 : IntKind.i64.wrap (k - 1) = k - 1 := wrap_i64 ⟨by omega, by omega⟩
  refine call_intro (args := [.agg (encT t u).toArray, .agg (encF f v).toArray, .int .i64 k]) Tryz.func109 rfl Tryz.ntmps109 (by simp) hμ ?_
  by_cases h0 : t.op = 102 ∨ t.op = 126 ∨ t.op = 127 ∨ t.op = 144 ∨ t.op = 114
  · have e : Iq.numbB t.op t.n f.loc k = Iq.inI t.n 0 1 := by
      unfold Iq.numbB
      rw [if_pos h0]
    rw [e]
    rcases h0 with h0 | h0 | h0 | h0 | h0
    all_goals repeat' (first | refine KO ?_ | ((with_reducible apply F1 47); exact rfl; exact EN; (exact fun w μc hw hse => pin_spec _ _ _ w μc hw)) | refine KI ?_ | refine NB fun b => ?_ | (refine KB ?_ ?_ <;> intro hp) | refine KG ?_ | fail)
    all_goals first | (exfalso; first | omega | contradiction | exact absurd ‹_› ‹¬ _›) | exact ret_s rfl rfl rfl | (refine ret_s rfl rfl ?_; congr 1; first | (rw [decide_eq_true (by omega)]; done) | (rw [decide_eq_false (by omega)]; done) | (rw [Bool.eq_iff_iff]; simp; omega) | (simp [*]; done))
  by_cases h1 : t.op = 103
  · have e : Iq.numbB t.op t.n f.loc k = Iq.inI t.n (-9007199254740992) 9007199254740992 := by
      unfold Iq.numbB
      rw [if_neg h0, if_pos h1]
    rw [e]
    repeat' (first | refine KO ?_ | ((with_reducible apply F1 47); exact rfl; exact EN; (exact fun w μc hw hse => pin_spec _ _ _ w μc hw)) | refine KI ?_ | refine NB fun b => ?_ | (refine KB ?_ ?_ <;> intro hp) | refine KG ?_ | fail)
    all_goals first | (exfalso; first | omega | contradiction | exact absurd ‹_› ‹¬ _›) | exact ret_s rfl rfl rfl | (refine ret_s rfl rfl ?_; congr 1; first | (rw [decide_eq_true (by omega)]; done) | (rw [decide_eq_false (by omega)]; done) | (rw [Bool.eq_iff_iff]; simp; omega) | (simp [*]; done))
  by_cases h2 : t.op = 107 ∨ t.op = 108 ∨ t.op = 169
  · have e : Iq.numbB t.op t.n f.loc k = Iq.inI t.n 0 (f.loc - 1) := by
      unfold Iq.numbB
      rw [if_neg h0, if_neg h1, if_pos h2]
    rw [e]
    rcases h2 with h2 | h2 | h2
    all_goals repeat' (first | refine KO ?_ | ((with_reducible apply F1 47); exact rfl; exact EN; (exact fun w μc hw hse => pin_spec _ _ _ w μc hw)) | refine KI ?_ | refine NB fun b => ?_ | (refine KB ?_ ?_ <;> intro hp) | refine KG ?_ | fail)
    all_goals first | (exfalso; first | omega | contradiction | exact absurd ‹_› ‹¬ _›) | exact ret_s rfl rfl rfl | (refine ret_s rfl rfl ?_; congr 1; first | (rw [decide_eq_true (by omega)]; done) | (rw [decide_eq_false (by omega)]; done) | (rw [Bool.eq_iff_iff]; simp; omega) | (simp [*]; done))
  by_cases h3 : t.op = 109 ∨ t.op = 110 ∨ t.op = 165 ∨ t.op = 166
  · have e : Iq.numbB t.op t.n f.loc k = true := by
      unfold Iq.numbB
      rw [if_neg h0, if_neg h1, if_neg h2, if_pos h3]
    rw [e]
    rcases h3 with h3 | h3 | h3 | h3
    all_goals repeat' (first | refine KO ?_ | ((with_reducible apply F1 47); exact rfl; exact EN; (exact fun w μc hw hse => pin_spec _ _ _ w μc hw)) | refine KI ?_ | refine NB fun b => ?_ | (refine KB ?_ ?_ <;> intro hp) | refine KG ?_ | fail)
    all_goals first | (exfalso; first | omega | contradiction | exact absurd ‹_› ‹¬ _›) | exact ret_s rfl rfl rfl | (refine ret_s rfl rfl ?_; congr 1; first | (rw [decide_eq_true (by omega)]; done) | (rw [decide_eq_false (by omega)]; done) | (rw [Bool.eq_iff_iff]; simp; omega) | (simp [*]; done))
  by_cases h4 : t.op = 117
  · have e : Iq.numbB t.op t.n f.loc k = Iq.inI t.n (-1) 1024 := by
      unfold Iq.numbB
      rw [if_neg h0, if_neg h1, if_neg h2, if_neg h3, if_pos h4]
    rw [e]
    repeat' (first | refine KO ?_ | ((with_reducible apply F1 47); exact rfl; exact EN; (exact fun w μc hw hse => pin_spec _ _ _ w μc hw)) | refine KI ?_ | refine NB fun b => ?_ | (refine KB ?_ ?_ <;> intro hp) | refine KG ?_ | fail)
    all_goals first | (exfalso; first | omega | contradiction | exact absurd ‹_› ‹¬ _›) | exact ret_s rfl rfl rfl | (refine ret_s rfl rfl ?_; congr 1; first | (rw [decide_eq_true (by omega)]; done) | (rw [decide_eq_false (by omega)]; done) | (rw [Bool.eq_iff_iff]; simp; omega) | (simp [*]; done))
  by_cases h5 : t.op = 118
  · have e : Iq.numbB t.op t.n f.loc k = Iq.inI t.n 0 1024 := by
      unfold Iq.numbB
      rw [if_neg h0, if_neg h1, if_neg h2, if_neg h3, if_neg h4, if_pos h5]
    rw [e]
    repeat' (first | refine KO ?_ | ((with_reducible apply F1 47); exact rfl; exact EN; (exact fun w μc hw hse => pin_spec _ _ _ w μc hw)) | refine KI ?_ | refine NB fun b => ?_ | (refine KB ?_ ?_ <;> intro hp) | refine KG ?_ | fail)
    all_goals first | (exfalso; first | omega | contradiction | exact absurd ‹_› ‹¬ _›) | exact ret_s rfl rfl rfl | (refine ret_s rfl rfl ?_; congr 1; first | (rw [decide_eq_true (by omega)]; done) | (rw [decide_eq_false (by omega)]; done) | (rw [Bool.eq_iff_iff]; simp; omega) | (simp [*]; done))
  by_cases h6 : t.op = 119
  · have e : Iq.numbB t.op t.n f.loc k = Iq.inI t.n 1 (k - 1) := by
      unfold Iq.numbB
      rw [if_neg h0, if_neg h1, if_neg h2, if_neg h3, if_neg h4, if_neg h5, if_pos h6]
    rw [e]
    repeat' (first | refine KO ?_ | ((with_reducible apply F1 47); exact rfl; exact EN; (exact fun w μc hw hse => pin_spec _ _ _ w μc hw)) | refine KI ?_ | refine NB fun b => ?_ | (refine KB ?_ ?_ <;> intro hp) | refine KG ?_ | fail)
    all_goals first | (exfalso; first | omega | contradiction | exact absurd ‹_› ‹¬ _›) | exact ret_s rfl rfl rfl | (refine ret_s rfl rfl ?_; congr 1; first | (rw [decide_eq_true (by omega)]; done) | (rw [decide_eq_false (by omega)]; done) | (rw [Bool.eq_iff_iff]; simp; omega) | (simp [*]; done))
  by_cases h7 : t.op = 121
  · have e : Iq.numbB t.op t.n f.loc k = Iq.inI t.n 0 2 := by
      unfold Iq.numbB
      rw [if_neg h0, if_neg h1, if_neg h2, if_neg h3, if_neg h4, if_neg h5, if_neg h6, if_pos h7]
    rw [e]
    repeat' (first | refine KO ?_ | ((with_reducible apply F1 47); exact rfl; exact EN; (exact fun w μc hw hse => pin_spec _ _ _ w μc hw)) | refine KI ?_ | refine NB fun b => ?_ | (refine KB ?_ ?_ <;> intro hp) | refine KG ?_ | fail)
    all_goals first | (exfalso; first | omega | contradiction | exact absurd ‹_› ‹¬ _›) | exact ret_s rfl rfl rfl | (refine ret_s rfl rfl ?_; congr 1; first | (rw [decide_eq_true (by omega)]; done) | (rw [decide_eq_false (by omega)]; done) | (rw [Bool.eq_iff_iff]; simp; omega) | (simp [*]; done))
  by_cases h8 : t.op = 163 ∨ t.op = 164 ∨ t.op = 170
  · have e : Iq.numbB t.op t.n f.loc k = Iq.inI t.n 0 4096 := by
      unfold Iq.numbB
      rw [if_neg h0, if_neg h1, if_neg h2, if_neg h3, if_neg h4, if_neg h5, if_neg h6, if_neg h7, if_pos h8]
    rw [e]
    rcases h8 with h8 | h8 | h8
    all_goals repeat' (first | refine KO ?_ | ((with_reducible apply F1 47); exact rfl; exact EN; (exact fun w μc hw hse => pin_spec _ _ _ w μc hw)) | refine KI ?_ | refine NB fun b => ?_ | (refine KB ?_ ?_ <;> intro hp) | refine KG ?_ | fail)
    all_goals first | (exfalso; first | omega | contradiction | exact absurd ‹_› ‹¬ _›) | exact ret_s rfl rfl rfl | (refine ret_s rfl rfl ?_; congr 1; first | (rw [decide_eq_true (by omega)]; done) | (rw [decide_eq_false (by omega)]; done) | (rw [Bool.eq_iff_iff]; simp; omega) | (simp [*]; done))
  have e : Iq.numbB t.op t.n f.loc k = decide (t.n = 0) := by
    unfold Iq.numbB
    rw [if_neg h0, if_neg h1, if_neg h2, if_neg h3, if_neg h4, if_neg h5, if_neg h6, if_neg h7, if_neg h8]
  rw [e]
  repeat' (first | refine KK ?_ | refine NB fun b => ?_ | (refine KB ?_ ?_ <;> intro hp) | refine KG ?_ | fail)
  all_goals first | (exfalso; first | omega | contradiction | exact absurd ‹_› ‹¬ _›) | exact ret_s rfl rfl rfl | (refine ret_s rfl rfl ?_; congr 1; first | (rw [decide_eq_true (by omega)]; done) | (rw [decide_eq_false (by omega)]; done) | (rw [Bool.eq_iff_iff]; simp; omega) | (simp [*]; done))
end
section
open Go.RowKit Go.Vcg
theorem sign_ne {c : UInt8} {k : UInt8} (h : ¬ c = k) : ¬ (c.toNat : Int) = (k.toNat : Int) := fun e => h (UInt8.toNat_inj.1 (Int.ofNat.inj e))
attribute [local irreducible] G GC GQ GA GAop Calls IntKind.wrap Int.decLt Int.decLe
theorem pisE_b (op : Int) (b : Bool) (h : Iq.isE op = b) (w : World) (μ : Mem) (hμ : MOk μ w) : Calls Tryz.prog 10 #[.int .i64 op] w fun e w' => e = .returned (.bool b) ∧ Below w.heap.size w w' := by
  subst h
  exact isE_spec w μ hμ op
theorem risE_b (op : Int) (b : Bool) (h : Iq.isE op = b) (w : World) (μ : Mem) (hμ : MOk μ w) : Calls Tryz.prog 11 #[.int .i64 op] w fun e w' => e = .returned (.bool b) ∧ Below w.heap.size w w' := by
  subst h
  exact risE_spec w μ hμ op
theorem pisS_b (op : Int) (b : Bool) (h : Iq.isS op = b) (w : World) (μ : Mem) (hμ : MOk μ w) : Calls Tryz.prog 75 #[.int .i64 op] w fun e w' => e = .returned (.bool b) ∧ Below w.heap.size w w' := by
  subst h
  exact pdeed_spec op w μ hμ
theorem risS_b (op : Int) (b : Bool) (h : Iq.isS op = b) (w : World) (μ : Mem) (hμ : MOk μ w) : Calls Tryz.prog 77 #[.int .i64 op] w fun e w' => e = .returned (.bool b) ∧ Below w.heap.size w w' := by
  subst h
  exact rstmt_spec op w μ hμ
theorem pfits_spec (x : Int) (c : UInt8) (op : Int) (hx : x = c.toNat) (w : World) (μ : Mem) (hμ : MOk μ w) : Calls Tryz.prog 134 #[.int .u8 x, .int .i64 op] w fun e w' => e = .returned (.bool (Iq.fitB c op)) ∧ Below w.heap.size w w' := by
  refine call_intro (args := [.int .u8 x, .int .i64 op]) Tryz.func134 rfl Tryz.ntmps134 (by simp) hμ ?_
  have n0 : c = 115 → x = 115 := fun h => by rw [hx, h]; rfl
  have n1 : c = 112 → x = 112 := fun h => by rw [hx, h]; rfl
  have n2 : c = 97 → x = 97 := fun h => by rw [hx, h]; rfl
  have n3 : c = 98 → x = 98 := fun h => by rw [hx, h]; rfl
  have m0 : ¬ c = 115 → ¬ x = 115 := fun h => by rw [hx]; exact sign_ne h
  have m1 : ¬ c = 112 → ¬ x = 112 := fun h => by rw [hx]; exact sign_ne h
  have m2 : ¬ c = 97 → ¬ x = 97 := fun h => by rw [hx]; exact sign_ne h
  have m3 : ¬ c = 98 → ¬ x = 98 := fun h => by rw [hx]; exact sign_ne h
  clear hx
  unfold Iq.fitB
  by_cases h0 : c = 115
  · have nx := n0 h0
    rw [if_pos h0]
    clear n0 n1 n2 n3 m0 m1 m2 m3
    cases hS : Iq.isS op
    all_goals repeat' (first | refine KO ?_ | ((with_reducible apply F1 10); exact rfl; exact EN; (exact fun w μc hw hse => pisE_b op _ hE w μc hw)) | ((with_reducible apply F1 75); exact rfl; exact EN; (exact fun w μc hw hse => pisS_b op _ hS w μc hw)) | refine KI ?_ | (refine KB ?_ ?_ <;> intro hp) | refine KG ?_ | fail)
    all_goals first | (exfalso; first | omega | contradiction | exact absurd ‹_› ‹¬ _›) | exact ret_s rfl rfl rfl | (refine ret_s rfl rfl ?_; congr 1; first | (rw [decide_eq_true (by omega)]; done) | (rw [decide_eq_false (by omega)]; done) | (rw [Bool.eq_iff_iff]; simp; omega) | (rw [Bool.eq_iff_iff]; simp; done) | (simp [*]; done))
  rw [if_neg h0]
  by_cases h1 : c = 112
  · have nx := n1 h1
    have mx0 := m0 h0
    rw [if_pos h1]
    clear n0 n1 n2 n3 m0 m1 m2 m3
    by_cases q1 : op = 121
    all_goals by_cases q2 : op = 122
    all_goals repeat' (first | refine KO ?_ | ((with_reducible apply F1 10); exact rfl; exact EN; (exact fun w μc hw hse => pisE_b op _ hE w μc hw)) | ((with_reducible apply F1 75); exact rfl; exact EN; (exact fun w μc hw hse => pisS_b op _ hS w μc hw)) | refine KI ?_ | (refine KB ?_ ?_ <;> intro hp) | refine KG ?_ | fail)
    all_goals first | (exfalso; first | omega | contradiction | exact absurd ‹_› ‹¬ _›) | exact ret_s rfl rfl rfl | (refine ret_s rfl rfl ?_; congr 1; first | (rw [decide_eq_true (by omega)]; done) | (rw [decide_eq_false (by omega)]; done) | (rw [Bool.eq_iff_iff]; simp; omega) | (rw [Bool.eq_iff_iff]; simp; done) | (simp [*]; done))
  rw [if_neg h1]
  by_cases h2 : c = 97
  · have nx := n2 h2
    have mx0 := m0 h0
    have mx1 := m1 h1
    rw [if_pos h2]
    clear n0 n1 n2 n3 m0 m1 m2 m3
    cases hE : Iq.isE op
    all_goals by_cases q1 : op = 124
    all_goals repeat' (first | refine KO ?_ | ((with_reducible apply F1 10); exact rfl; exact EN; (exact fun w μc hw hse => pisE_b op _ hE w μc hw)) | ((with_reducible apply F1 75); exact rfl; exact EN; (exact fun w μc hw hse => pisS_b op _ hS w μc hw)) | refine KI ?_ | (refine KB ?_ ?_ <;> intro hp) | refine KG ?_ | fail)
    all_goals first | (exfalso; first | omega | contradiction | exact absurd ‹_› ‹¬ _›) | exact ret_s rfl rfl rfl | (refine ret_s rfl rfl ?_; congr 1; first | (rw [decide_eq_true (by omega)]; done) | (rw [decide_eq_false (by omega)]; done) | (rw [Bool.eq_iff_iff]; simp; omega) | (rw [Bool.eq_iff_iff]; simp; done) | (simp [*]; done))
  rw [if_neg h2]
  by_cases h3 : c = 98
  · have nx := n3 h3
    have mx0 := m0 h0
    have mx1 := m1 h1
    have mx2 := m2 h2
    rw [if_pos h3]
    clear n0 n1 n2 n3 m0 m1 m2 m3
    cases hE : Iq.isE op
    all_goals cases hS : Iq.isS op
    all_goals repeat' (first | refine KO ?_ | ((with_reducible apply F1 10); exact rfl; exact EN; (exact fun w μc hw hse => pisE_b op _ hE w μc hw)) | ((with_reducible apply F1 75); exact rfl; exact EN; (exact fun w μc hw hse => pisS_b op _ hS w μc hw)) | refine KI ?_ | (refine KB ?_ ?_ <;> intro hp) | refine KG ?_ | fail)
    all_goals first | (exfalso; first | omega | contradiction | exact absurd ‹_› ‹¬ _›) | exact ret_s rfl rfl rfl | (refine ret_s rfl rfl ?_; congr 1; first | (rw [decide_eq_true (by omega)]; done) | (rw [decide_eq_false (by omega)]; done) | (rw [Bool.eq_iff_iff]; simp; omega) | (rw [Bool.eq_iff_iff]; simp; done) | (simp [*]; done))
  rw [if_neg h3]
  have mx0 := m0 h0
  have mx1 := m1 h1
  have mx2 := m2 h2
  have mx3 := m3 h3
  clear n0 n1 n2 n3 m0 m1 m2 m3
  cases hE : Iq.isE op
  all_goals repeat' (first | refine KO ?_ | ((with_reducible apply F1 10); exact rfl; exact EN; (exact fun w μc hw hse => pisE_b op _ hE w μc hw)) | ((with_reducible apply F1 75); exact rfl; exact EN; (exact fun w μc hw hse => pisS_b op _ hS w μc hw)) | refine KI ?_ | (refine KB ?_ ?_ <;> intro hp) | refine KG ?_ | fail)
  all_goals first | (exfalso; first | omega | contradiction | exact absurd ‹_› ‹¬ _›) | exact ret_s rfl rfl rfl | (refine ret_s rfl rfl ?_; congr 1; first | (rw [decide_eq_true (by omega)]; done) | (rw [decide_eq_false (by omega)]; done) | (rw [Bool.eq_iff_iff]; simp; omega) | (rw [Bool.eq_iff_iff]; simp; done) | (simp [*]; done))
theorem rkind_spec (x : Int) (c : UInt8) (op : Int) (hx : x = c.toNat) (hnp : ¬ c = 112) (w : World) (μ : Mem) (hμ : MOk μ w) : Calls Tryz.prog 158 #[.int .u8 x, .int .i64 op] w fun e w' => e = .returned (.bool (Iq.fitB c op)) ∧ Below w.heap.size w w' := by
  refine call_intro (args := [.int .u8 x, .int .i64 op]) Tryz.func158 rfl Tryz.ntmps158 (by simp) hμ ?_
  have n0 : c = 115 → x = 115 := fun h => by rw [hx, h]; rfl
  have n1 : c = 112 → x = 112 := fun h => by rw [hx, h]; rfl
  have n2 : c = 97 → x = 97 := fun h => by rw [hx, h]; rfl
  have n3 : c = 98 → x = 98 := fun h => by rw [hx, h]; rfl
  have m0 : ¬ c = 115 → ¬ x = 115 := fun h => by rw [hx]; exact sign_ne h
  have m1 : ¬ c = 112 → ¬ x = 112 := fun h => by rw [hx]; exact sign_ne h
  have m2 : ¬ c = 97 → ¬ x = 97 := fun h => by rw [hx]; exact sign_ne h
  have m3 : ¬ c = 98 → ¬ x = 98 := fun h => by rw [hx]; exact sign_ne h
  clear hx
  unfold Iq.fitB
  by_cases h0 : c = 115
  · have nx := n0 h0
    rw [if_pos h0]
    clear n0 n1 n2 n3 m0 m1 m2 m3
    cases hS : Iq.isS op
    all_goals repeat' (first | refine KO ?_ | ((with_reducible apply F1 11); exact rfl; exact EN; (exact fun w μc hw hse => risE_b op _ hE w μc hw)) | ((with_reducible apply F1 77); exact rfl; exact EN; (exact fun w μc hw hse => risS_b op _ hS w μc hw)) | refine KI ?_ | (refine KB ?_ ?_ <;> intro hp) | refine KG ?_ | fail)
    all_goals first | (exfalso; first | omega | contradiction | exact absurd ‹_› ‹¬ _›) | exact ret_s rfl rfl rfl | (refine ret_s rfl rfl ?_; congr 1; first | (rw [decide_eq_true (by omega)]; done) | (rw [decide_eq_false (by omega)]; done) | (rw [Bool.eq_iff_iff]; simp; omega) | (rw [Bool.eq_iff_iff]; simp; done) | (simp [*]; done))
  rw [if_neg h0]
  have h1 : ¬ c = 112 := hnp
  rw [if_neg h1]
  by_cases h2 : c = 97
  · have nx := n2 h2
    have mx0 := m0 h0
    have mx1 := m1 h1
    rw [if_pos h2]
    clear n0 n1 n2 n3 m0 m1 m2 m3
    cases hE : Iq.isE op
    all_goals by_cases q1 : op = 124
    all_goals repeat' (first | refine KO ?_ | ((with_reducible apply F1 11); exact rfl; exact EN; (exact fun w μc hw hse => risE_b op _ hE w μc hw)) | ((with_reducible apply F1 77); exact rfl; exact EN; (exact fun w μc hw hse => risS_b op _ hS w μc hw)) | refine KI ?_ | (refine KB ?_ ?_ <;> intro hp) | refine KG ?_ | fail)
    all_goals first | (exfalso; first | omega | contradiction | exact absurd ‹_› ‹¬ _›) | exact ret_s rfl rfl rfl | (refine ret_s rfl rfl ?_; congr 1; first | (rw [decide_eq_true (by omega)]; done) | (rw [decide_eq_false (by omega)]; done) | (rw [Bool.eq_iff_iff]; simp; omega) | (rw [Bool.eq_iff_iff]; simp; done) | (simp [*]; done))
  rw [if_neg h2]
  by_cases h3 : c = 98
  · have nx := n3 h3
    have mx0 := m0 h0
    have mx1 := m1 h1
    have mx2 := m2 h2
    rw [if_pos h3]
    clear n0 n1 n2 n3 m0 m1 m2 m3
    cases hE : Iq.isE op
    all_goals cases hS : Iq.isS op
    all_goals repeat' (first | refine KO ?_ | ((with_reducible apply F1 11); exact rfl; exact EN; (exact fun w μc hw hse => risE_b op _ hE w μc hw)) | ((with_reducible apply F1 77); exact rfl; exact EN; (exact fun w μc hw hse => risS_b op _ hS w μc hw)) | refine KI ?_ | (refine KB ?_ ?_ <;> intro hp) | refine KG ?_ | fail)
    all_goals first | (exfalso; first | omega | contradiction | exact absurd ‹_› ‹¬ _›) | exact ret_s rfl rfl rfl | (refine ret_s rfl rfl ?_; congr 1; first | (rw [decide_eq_true (by omega)]; done) | (rw [decide_eq_false (by omega)]; done) | (rw [Bool.eq_iff_iff]; simp; omega) | (rw [Bool.eq_iff_iff]; simp; done) | (simp [*]; done))
  rw [if_neg h3]
  have mx0 := m0 h0
  have mx1 := m1 h1
  have mx2 := m2 h2
  have mx3 := m3 h3
  clear n0 n1 n2 n3 m0 m1 m2 m3
  cases hE : Iq.isE op
  all_goals repeat' (first | refine KO ?_ | ((with_reducible apply F1 11); exact rfl; exact EN; (exact fun w μc hw hse => risE_b op _ hE w μc hw)) | ((with_reducible apply F1 77); exact rfl; exact EN; (exact fun w μc hw hse => risS_b op _ hS w μc hw)) | refine KI ?_ | (refine KB ?_ ?_ <;> intro hp) | refine KG ?_ | fail)
  all_goals first | (exfalso; first | omega | contradiction | exact absurd ‹_› ‹¬ _›) | exact ret_s rfl rfl rfl | (refine ret_s rfl rfl ?_; congr 1; first | (rw [decide_eq_true (by omega)]; done) | (rw [decide_eq_false (by omega)]; done) | (rw [Bool.eq_iff_iff]; simp; omega) | (rw [Bool.eq_iff_iff]; simp; done) | (simp [*]; done))
theorem rone_spec (x : Int) (c : UInt8) (op : Int) (hx : x = c.toNat) (w : World) (μ : Mem) (hμ : MOk μ w) : Calls Tryz.prog 139 #[.int .u8 x, .int .i64 op] w fun e w' => e = .returned (.bool (Iq.fitB c op)) ∧ Below w.heap.size w w' := by
  refine call_intro (args := [.int .u8 x, .int .i64 op]) Tryz.func139 rfl Tryz.ntmps139 (by simp) hμ ?_
  by_cases h : c = 112
  · have nx : x = 112 := by rw [hx, h]; rfl
    have e : Iq.fitB c op = (decide (op = 121) || decide (op = 122)) := by
      unfold Iq.fitB
      rw [h, if_neg (by decide), if_pos rfl]
    rw [e]
    clear hx
    by_cases q1 : op = 121
    all_goals by_cases q2 : op = 122
    all_goals repeat' (first | refine KK ?_ | (refine KB ?_ ?_ <;> intro hp) | refine KG ?_ | fail)
    all_goals first | (exfalso; first | omega | contradiction | exact absurd ‹_› ‹¬ _›) | exact ret_s rfl rfl rfl | (refine ret_s rfl rfl ?_; congr 1; first | (rw [decide_eq_true (by omega)]; done) | (rw [decide_eq_false (by omega)]; done) | (rw [Bool.eq_iff_iff]; simp; omega) | (rw [Bool.eq_iff_iff]; simp; done) | (simp [*]; done))
  · have mx : ¬ x = 112 := by rw [hx]; exact sign_ne h
    have hc := fun w μc hw => rkind_spec x c op hx h w μc hw
    generalize Iq.fitB c op = b at hc ⊢
    repeat' (first | refine KO ?_ | ((with_reducible apply F1 158); exact rfl; exact EN; (exact fun w μc hw hse => hc w μc hw)) | refine KI ?_ | (refine KB ?_ ?_ <;> intro hp) | refine KG ?_ | fail)
    all_goals first | (exfalso; first | omega | contradiction | exact absurd ‹_› ‹¬ _›) | exact ret_s rfl rfl rfl | (refine ret_s rfl rfl ?_; congr 1; first | (rw [decide_eq_true (by omega)]; done) | (rw [decide_eq_false (by omega)]; done) | (rw [Bool.eq_iff_iff]; simp; omega) | (rw [Bool.eq_iff_iff]; simp; done) | (simp [*]; done))
end
end Go.Proofs.YtoclmkdfcafhfaaGreatDoor
