/- The law OutcomeBack, walked. No statement of the seat is proved here. -/
import Derived.Test.YtmihpkdhfomcgaaDoorOu23
import Derived.Test.YtmihpkdhfomcgaaDoorSt
set_option maxRecDepth 20000
set_option maxHeartbeats 2000000
namespace Go.Proofs.YtmihpkdhfomcgaaDoor
open Go.RowKit Go.Vcg Ou
theorem keyR_size {k : KeyP} (h : keyR k = true) : k.s.size ≤ 65536 := by
  unfold keyR at h
  split at h
  · have : k.s = ⟨#[]⟩ := by
      simp only [Bool.and_eq_true, decide_eq_true_eq] at h
      exact h.1
    rw [this]; decide
  split at h
  · simp only [Bool.and_eq_true, decide_eq_true_eq] at h
    exact h.2.1
  split at h
  · have : k.s = ⟨#[]⟩ := by
      simp only [Bool.and_eq_true, decide_eq_true_eq] at h
      exact h.1
    rw [this]; decide
  · cases h
theorem key_size {o : OutP} (h : MayO keyR o) : ∀ e ∈ o.log, e.key.s.size ≤ 65536 := fun e he => by
  unfold MayO at h
  split at h
  · rw [h.2.2.2.2.2.1] at he; cases he
  · exact keyR_size (h.2.2.2.2 e he).2.1
theorem log_len {o : OutP} (h : MayO keyR o) : o.log.length ≤ (textB o).length := by
  have hl := lines_len (linesB o)
  unfold MayO at h
  split at h
  · rw [h.2.2.2.2.2.1]; simp
  · rename_i he
    have e : o.log.length ≤ (linesB o).length := by
      unfold linesB
      rw [if_neg he]
      simp only [List.length_cons, List.length_append, List.length_map]
      omega
    exact Nat.le_trans e hl
def exB : List UInt8 := [101, 110, 100, 115, 32, 110, 111, 114, 109, 97, 108, 32, 34, 50, 34, 10, 115, 116, 101, 112, 115, 32, 48, 10, 109, 97, 100, 101, 32, 48, 10]
def exO : OutP := { zeroO with text := ofB [50] }
def erO : OutP := { zeroO with e := 23, at_ := 7 }
theorem ex_read : readO keyR exB = .ok exO := by kernel_rfl
theorem er_may : MayO keyR erO := by
  unfold MayO
  rw [if_pos (by decide)]
  exact ⟨by decide, by decide, rfl, rfl, rfl, rfl, rfl, rfl⟩
theorem er_text : textB erO = [101, 114, 114, 111, 114, 32, 115, 121, 110, 116, 97, 120, 32, 55, 10] := by decide +kernel
attribute [local irreducible] G GC GQ GA GAop Calls IntKind.wrap Int.decLt Int.decLe readO textB
theorem oawake_spec (w : World) (μ : Mem) (hμ : MOk μ w) (hm : MaxOk μ) (hT : TabOk μ) :
    Calls Tryd.prog 5 #[] w fun e w' => e = .returned (.bool true) ∧ Below w.heap.size w w' := by
  refine call_intro (args := []) Tryd.func5 rfl Tryd.ntmps5 (by simp) hμ ?_
  have hrd := fun (w : World) (hw : MOk μ w) => oread_spec exB (by decide) w μ hw hm hT
  rw [ex_read] at hrd
  have htx := fun (w : World) (μc : Mem) (hw : MOk μc w) (hle : MLe μ μc) => otext_spec erO none none 0 0 er_may (by rw [er_text]; decide) (by decide) (fun e h => by cases h) w μc hw (hT.mono hle) (Sl.nil _ _ _ _) (Sl.nil _ _ _ _)
  rw [er_text] at htx
  repeat' (first | refine KO ?_ | ((with_reducible apply F2 6); exact rfl; exact EN; (exact fun w hw => hrd w hw); rintro v1 μ1 hle1 ⟨a, rfl, A, c, B, d, rfl, hA, hB⟩) | ((with_reducible apply F1 7); exact rfl; exact EN; (exact fun w μc hw hse => htx w μc hw (hle1.trans hse.le))) | refine KI ?_ | refine NB fun b => ?_ | ((refine KB ?_ ?_ <;> intro hp)) | refine KG ?_ | fail)
  all_goals first | (exfalso; first | omega | contradiction | (exact absurd ‹_› ‹¬ _›)) | (refine ret_s rfl rfl ?_; first | rfl | (congr 1; simp [*]; done) | (simp_all; done))
theorem same_zero (w : World) (μ : Mem) (hμ : MOk μ w) :
    Calls Tryd.prog 8 #[.agg #[.int .i64 0, .int .i64 0, .int .i64 0, .string ⟨#[]⟩, .slice none 0 0, .slice none 0 0, .int .i64 0, .int .i64 0], .agg #[.int .i64 0, .int .i64 0, .int .i64 0, .string ⟨#[]⟩, .slice none 0 0, .slice none 0 0, .int .i64 0, .int .i64 0]] w fun e w' => e = .returned (.bool true) ∧ Below w.heap.size w w' := by
  refine call_intro (args := [.agg #[.int .i64 0, .int .i64 0, .int .i64 0, .string ⟨#[]⟩, .slice none 0 0, .slice none 0 0, .int .i64 0, .int .i64 0], .agg #[.int .i64 0, .int .i64 0, .int .i64 0, .string ⟨#[]⟩, .slice none 0 0, .slice none 0 0, .int .i64 0, .int .i64 0]]) Tryd.func8 rfl Tryd.ntmps8 (by simp) hμ ?_
  repeat' (first | refine KK ?_ | refine NB fun b => ?_ | ((refine KB ?_ ?_ <;> intro hp)) | refine KG ?_ | fail)
  all_goals first | (exfalso; first | omega | contradiction | (exact absurd ‹_› ‹¬ _›)) | skip
  refine gc_rounds 0 ?_
  repeat' (first | refine KK ?_ | refine NB fun b => ?_ | ((refine KB ?_ ?_ <;> intro hp)) | refine KG ?_ | fail)
  all_goals first | (exfalso; first | omega | contradiction | (exact absurd ‹_› ‹¬ _›)) | skip
  refine gc_rounds 0 ?_
  repeat' (first | refine KK ?_ | refine NB fun b => ?_ | ((refine KB ?_ ?_ <;> intro hp)) | refine KG ?_ | fail)
  all_goals first | (exfalso; first | omega | contradiction | (exact absurd ‹_› ‹¬ _›)) | (refine ret_s rfl rfl ?_; first | rfl | (congr 1; simp [*]; done) | (simp_all; done))
theorem count_take {l : List UInt8} {i : Nat} (h : i < l.length) : (l.take (i + 1)).count 10 = (l.take i).count 10 + (if l[i] = 10 then 1 else 0) := by
  rw [List.take_succ_eq_append_getElem h, List.count_append]
  congr 1
  by_cases hc : l[i] = 10
  · rw [if_pos hc, hc]; rfl
  · rw [if_neg hc, List.count_cons, if_neg (by simpa using hc)]; rfl
theorem bat_ofB {l : List UInt8} {i : Nat} (h : i < l.length) : bAt (ofB l) i = l[i].toNat := by
  obtain ⟨b, h1, h2⟩ := bl_at (s := ofB l) (i := i) (by rw [ofB_size]; exact h)
  rw [bl_ofB, List.getElem?_eq_getElem h] at h1
  rw [h2, Option.some.inj h1]
/-- the law -/
theorem back_walk (w : World) (μ : Mem) (hμ : MOk μ w) (hT : TabOk μ) (hm : MaxOk μ) (s0 : ByteArray) (hs0 : s0.size ≤ 9223372036854775807) :
    Calls Tryd.prog 3 #[.string s0] w fun e w' => e = .returned (.bool true) ∧ Below w.heap.size w w' := by
  refine call_intro (args := [.string s0]) Tryd.func3 rfl Tryd.ntmps3 (by simp) hμ ?_
  obtain ⟨k, hk⟩ : ∃ k, min s0.size 3000 = k := ⟨_, rfl⟩
  obtain ⟨s, hs⟩ : ∃ s, (bl s0).take k = s := ⟨_, rfl⟩
  have hsl : s.length ≤ 3000 := by rw [← hs, List.length_take]; omega
  have hcut : s0.extract 0 k = ofB s := by
    rw [← ofB_byS s0, ext_take, ← hs]
    rfl
  repeat' (first | ((with_reducible show GC _ _ (Code.seq (Code.region 4 _ _) _) _ _ _ _); (apply gc_stop)) | refine KO ?_ | ((with_reducible apply F1 5); exact rfl; exact EN; (exact fun w μc hw hse => oawake_spec w μc hw (hm.mono hse.le) (hT.mono hse.le))) | (refine KV (b := by first | ((with_reducible apply v_str_hi k); exact rfl; exact rfl; exact rfl; (first | rfl | omega); omega)) (c := ?_)) | refine KI ?_ | refine NB fun b => ?_ | ((refine KB ?_ ?_ <;> intro hp)) | refine KG ?_ | fail)
  all_goals first | (exfalso; first | omega | contradiction | (exact absurd ‹_› ‹¬ _›)) | skip
  rw [hcut]
  refine gcs ?_
  have hrd := fun (w : World) (hw : MOk μ w) => oread_spec s (by omega) w μ hw hm hT
  cases hres : readO keyR s with
  | ok o =>
    rw [hres] at hrd
    obtain ⟨htx, hM⟩ := readO_ok hres
    have hll := log_len hM
    have htxt := fun (A B : Option Addr) (c d : Nat) (w : World) (μc : Mem) (hw : MOk μc w) (hle : MLe μ μc) (hA : Sl encStr 1 μc A o.out.length o.out) (hB : Sl encE 5 μc B o.log.length o.log) => otext_spec o A B c d hM (by rw [htx]; omega) (by rw [htx] at hll; omega) (fun e he => by have := key_size hM e he; omega) w μc hw (hT.mono hle) hA hB
    rw [htx] at htxt
    repeat' (first | refine KO ?_ | ((with_reducible apply F2 6); exact rfl; exact EN; (exact fun w hw => hrd w hw); rintro v1 μ1 hle1 ⟨a, rfl, A, c, B, d, rfl, hA, hB⟩) | ((with_reducible apply F1 7); exact rfl; exact EN; (exact fun w μc hw hse => htxt A B c d w μc hw (hle1.trans hse.le) (hA.mono hse.le) (hB.mono hse.le))) | refine KI ?_ | refine NB fun b => ?_ | ((refine KB ?_ ?_ <;> intro hp)) | refine KG ?_ | fail)
    all_goals first | (exfalso; first | omega | contradiction | (exact absurd ‹_› ‹¬ _›)) | (refine ret_s rfl rfl ?_; first | rfl | (congr 1; simp [*]; done) | (simp_all; done))
  | error x =>
    rw [hres] at hrd
    obtain ⟨hx2, hx1, hx3⟩ := readO_err hres
    repeat' (first | refine KO ?_ | ((with_reducible apply F2 6); exact rfl; exact EN; (exact fun w hw => hrd w hw); rintro v1 μ1 hle1 rfl) | refine KI ?_ | refine NB fun b => ?_ | ((refine KB ?_ ?_ <;> intro hp)) | refine KG ?_ | fail)
    all_goals first | (exfalso; first | omega | contradiction | (exact absurd ‹_› ‹¬ _›)) | skip
    rename Nat => b3
    refine gc_loop (ι := Nat) (fun i => i ≤ s.length) (fun i => s.length - i) (fun _ => μ1) (fun i => [(7, .int .i64 i), (6, .int .i64 (1 + ((s.take i).count 10 : Nat))), (5, .int .i64 x.2), (4, .int .i64 x.1), (3, .pointer (some ⟨b3, 0, none⟩)), (0, .string (ofB s))])
      (fun _ => [.inl ⟨b3, 27, 8, idx 0 [.int .i64 0, .int .i64 0, .int .i64 0, .string ⟨#[]⟩, .slice none 0 0, .slice none 0 0, .int .i64 0, .int .i64 0]⟩]) 0 (Nat.zero_le _) (fun a w hs => J5 hs) ?_
    intro i hi
    have hsz := ofB_size s
    by_cases hlt : i < s.length
    · have hcl : (s.take i).count 10 ≤ i := Nat.le_trans List.count_le_length (by rw [List.length_take]; omega)
      have hct := count_take hlt
      have hb := bat_ofB hlt
      have hrng : 1 + ((s.take i).count 10 : Int) ≤ 3001 := by omega
      by_cases hc : s[i] = 10
      · rw [if_pos hc] at hct
        have hb10 : bAt (ofB s) i = 10 := by rw [hb, hc]; rfl
        have hcz : ((s.take (i + 1)).count 10 : Int) = ((s.take i).count 10 : Int) + 1 := by omega
        repeat' (first | refine KO ?_ | (refine KV (b := by first | exact U2 i) (c := ?_)) | refine KI ?_ | refine NB fun b => ?_ | ((refine KB ?_ ?_ <;> intro hp)) | refine KG ?_ | fail)
        all_goals first | (exfalso; first | omega | contradiction | (exact absurd ‹_› ‹¬ _›)) | skip
        refine gq_backS (i + 1) (by omega) (by omega) rfl ?_ PS
        rw [hcz, ← Int.add_assoc]
        exact PU
      · rw [if_neg hc] at hct
        have hb10 : ¬ (bAt (ofB s) i : Int) = 10 := by
          rw [hb]
          intro h
          apply hc
          have h2 : s[i].toNat = 10 := by omega
          exact UInt8.toNat_inj.1 h2
        have hcz : ((s.take (i + 1)).count 10 : Int) = ((s.take i).count 10 : Int) := by omega
        repeat' (first | refine KO ?_ | (refine KV (b := by first | exact U2 i) (c := ?_)) | refine KI ?_ | refine NB fun b => ?_ | ((refine KB ?_ ?_ <;> intro hp)) | refine KG ?_ | fail)
        all_goals first | (exfalso; first | omega | contradiction | (exact absurd ‹_› ‹¬ _›)) | skip
        refine gq_backS (i + 1) (by omega) (by omega) rfl ?_ PS
        rw [hcz]
        exact PU
    · obtain rfl : i = s.length := by omega
      rw [List.take_length]
      repeat' (first | refine KO ?_ | ((with_reducible apply F1 8); exact rfl; exact EN; (exact fun w μc hw hse => same_zero w μc hw)) | refine KI ?_ | refine NB fun b => ?_ | ((refine KB ?_ ?_ <;> intro hp)) | refine KG ?_ | fail)
      all_goals first | (exfalso; first | omega | contradiction | (exact absurd ‹_› ‹¬ _›)) | (refine ret_s rfl rfl ?_; first | rfl | (congr 1; simp [*]; done) | (simp_all; done))
end Go.Proofs.YtmihpkdhfomcgaaDoor
