/- The reference's rest. (and what leans on it). No statement of the seat is proved here. -/
import Derived.Test.YtfabmichdhbiaaaGreatDoorQaq
import Derived.Test.YtfabmichdhbiaaaGreatDoorQae
import Derived.Test.YtfabmichdhbiaaaGreatDoorQah
set_option maxRecDepth 20000
set_option maxHeartbeats 2000000
namespace Go.Proofs.YtfabmichdhbiaaaGreatDoor
open Go.RowKit Go.Vcg
attribute [local irreducible] targetT namedT bitT formB G GC GQ GA GAop Calls IntKind.wrap Int.decLt Int.decLe
theorem re_103 (t : T) (u : Value) (w : World) (μ : Mem) (hμ : MOk μ w) (hk : KR μ t.kids u) (hs : t.size ≤ 100000) (hss : t.s.size ≤ 65536) :
    Calls Tryz.prog 84 #[.int .u8 103, .agg (encT t u).toArray] w fun e w' => e = .returned (.bool (bitT t 16 && len0 t 0)) ∧ Below w.heap.size w w' := by
  have ho := hk.one
  obtain ⟨A, c0, rfl, hlc, hkid⟩ := hk.form
  have hlen := kidsLe t
  refine call_intro (args := [.int .u8 103, .agg (encT t (.slice A t.kids.length c0)).toArray]) Tryz.func84 rfl Tryz.ntmps84 (by simp) hμ ?_
  have hh := fun (m : Int) (hm : m ≠ 0) (w : World) (μc : Mem) (hw : MOk μc w) (hle : MLe μ μc) => rBit_spec m hm t _ w μc hw (hk.mono hle)
  by_cases h0 : t.kids.length = 0
  · rw [len0_nil (List.eq_nil_of_length_eq_zero h0), Bool.and_false]
    repeat' (first | refine KO ?_ | ((with_reducible apply F1 77); exact rfl; exact EN; (exact fun w μc hw hse => hh 16 (by decide) w μc hw hse.le)) | refine KI ?_ | refine NB fun b => ?_ | ((refine KB ?_ ?_ <;> intro hp)) | refine KG ?_ | fail)
    all_goals first | (exfalso; omega) | (refine ret_s rfl rfl ?_; simp_all)
  · obtain ⟨k, r, hkr⟩ := List.exists_cons_of_ne_nil (l := t.kids) (by intro e; rw [e] at h0; exact h0 rfl)
    obtain ⟨ad, x, rfl, hm, hox, hkx⟩ := hkid 0 k (by rw [hkr]; rfl)
    obtain ⟨A2, c2, rfl, hlc2, -⟩ := hkx.form
    have hsz := T.size_kid (t := t) (i := 0) (k := k) (by rw [hkr]; rfl)
    have hlk := kidsLe k
    rw [len0_cons hkr]
    repeat' (first | refine KO ?_ | ((with_reducible apply F1 77); exact rfl; exact EN; (exact fun w μc hw hse => hh 16 (by decide) w μc hw hse.le)) | (refine KV (b := by first | exact U1 0 | exact U4 hm) (c := ?_)) | refine KI ?_ | refine NB fun b => ?_ | ((refine KB ?_ ?_ <;> intro hp)) | refine KG ?_ | fail)
    all_goals first | (exfalso; omega) | (refine ret_s rfl rfl ?_; simp_all)
theorem re_115 (t : T) (u : Value) (w : World) (μ : Mem) (hμ : MOk μ w) (hk : KR μ t.kids u) (hs : t.size ≤ 100000) (hss : t.s.size ≤ 65536) :
    Calls Tryz.prog 84 #[.int .u8 115, .agg (encT t u).toArray] w fun e w' => e = .returned (.bool (bitT t 32 && set0 t)) ∧ Below w.heap.size w w' := by
  have ho := hk.one
  obtain ⟨A, c0, rfl, hlc, hkid⟩ := hk.form
  have hlen := kidsLe t
  refine call_intro (args := [.int .u8 115, .agg (encT t (.slice A t.kids.length c0)).toArray]) Tryz.func84 rfl Tryz.ntmps84 (by simp) hμ ?_
  have hh := fun (m : Int) (hm : m ≠ 0) (w : World) (μc : Mem) (hw : MOk μc w) (hle : MLe μ μc) => rBit_spec m hm t _ w μc hw (hk.mono hle)
  by_cases h0 : t.kids.length = 0
  · rw [set0_nil (List.eq_nil_of_length_eq_zero h0), Bool.and_false]
    repeat' (first | refine KO ?_ | ((with_reducible apply F1 77); exact rfl; exact EN; (exact fun w μc hw hse => hh 32 (by decide) w μc hw hse.le)) | refine KI ?_ | refine NB fun b => ?_ | ((refine KB ?_ ?_ <;> intro hp)) | refine KG ?_ | fail)
    all_goals first | (exfalso; omega) | (refine ret_s rfl rfl ?_; simp_all)
  · obtain ⟨k, r, hkr⟩ := List.exists_cons_of_ne_nil (l := t.kids) (by intro e; rw [e] at h0; exact h0 rfl)
    obtain ⟨ad, x, rfl, hm, hox, hkx⟩ := hkid 0 k (by rw [hkr]; rfl)
    obtain ⟨A2, c2, rfl, hlc2, hkid2⟩ := hkx.form
    have hsz := T.size_kid (t := t) (i := 0) (k := k) (by rw [hkr]; rfl)
    have hlk := kidsLe k
    by_cases h1 : k.kids.length = 1
    · obtain ⟨y, hy⟩ := List.length_eq_one_iff.1 h1
      obtain ⟨ad2, x2, rfl, hm2, hox2, hkx2⟩ := hkid2 0 y (by rw [hy]; rfl)
      rw [set0_one hkr hy]
      repeat' (first | refine KO ?_ | ((with_reducible apply F1 77); exact rfl; exact EN; (exact fun w μc hw hse => hh 32 (by decide) w μc hw hse.le)) | (refine KV (b := by first | exact U1 0 | exact U4 hm | exact U4 hm2) (c := ?_)) | refine KI ?_ | refine NB fun b => ?_ | ((refine KB ?_ ?_ <;> intro hp)) | refine KG ?_ | fail)
      all_goals first | (exfalso; omega) | (refine ret_s rfl rfl ?_; simp_all)
    · rw [set0_ne hkr h1, Bool.and_false]
      repeat' (first | refine KO ?_ | ((with_reducible apply F1 77); exact rfl; exact EN; (exact fun w μc hw hse => hh 32 (by decide) w μc hw hse.le)) | (refine KV (b := by first | exact U1 0 | exact U4 hm) (c := ?_)) | refine KI ?_ | refine NB fun b => ?_ | ((refine KB ?_ ?_ <;> intro hp)) | refine KG ?_ | fail)
      all_goals first | (exfalso; omega) | (refine ret_s rfl rfl ?_; simp_all; try omega)
theorem rest_spec (c : Int) (t : T) (u : Value) (w : World) (μ : Mem) (hμ : MOk μ w) (hk : KR μ t.kids u) (hs : t.size ≤ 100000) (hss : t.s.size ≤ 65536) :
    Calls Tryz.prog 84 #[.int .u8 c, .agg (encT t u).toArray] w fun e w' => e = .returned (.bool (restT c t)) ∧ Below w.heap.size w w' := by
  by_cases h103 : c = 103
  · subst h103
    exact re_103 t u w μ hμ hk hs hss
  by_cases h115 : c = 115
  · subst h115
    exact re_115 t u w μ hμ hk hs hss
  have ho := hk.one
  obtain ⟨A, c0, rfl, hlc, hkid⟩ := hk.form
  have hlen := kidsLe t
  refine call_intro (args := [.int .u8 c, .agg (encT t (.slice A t.kids.length c0)).toArray]) Tryz.func84 rfl Tryz.ntmps84 (by simp) hμ ?_
  have hh := fun (m : Int) (hm : m ≠ 0) (w : World) (μc : Mem) (hw : MOk μc w) (hle : MLe μ μc) => rBit_spec m hm t _ w μc hw (hk.mono hle)
  have ht := fun (w : World) (μc : Mem) (hw : MOk μc w) (hle : MLe μ μc) => rTarget_spec t _ w μc hw (hk.mono hle) hs hss
  by_cases h7 : c = 70 ∨ c = 72 ∨ c = 107 ∨ c = 119 ∨ c = 109
  · repeat' (first | refine KO ?_ | ((with_reducible apply F1 81); exact rfl; exact EN; (exact fun w μc hw hse => ht w μc hw hse.le)) | ((with_reducible apply F1 76); exact rfl; exact EN; (exact fun w μc hw hse => rForm_spec t.s hss w μc hw)) | ((with_reducible apply F1 77); exact rfl; exact EN; (exact fun w μc hw hse => hh 8 (by decide) w μc hw hse.le)) | refine KI ?_ | refine NB fun b => ?_ | ((refine KB ?_ ?_ <;> intro hp)) | refine KG ?_ | fail)
    all_goals first | (exfalso; omega) | (clear hk ho hμ hh ht hkid; refine ret_s rfl rfl ?_; simp_all [restT, namedT]; done) | skip
  · repeat' (first | ((with_reducible show GC _ _ (Code.seq (Code.region 16 _ _) _) _ _ _ _); (apply gc_stop)) | refine KO ?_ | ((with_reducible apply F1 81); exact rfl; exact EN; fail) | refine KI ?_ | refine NB fun b => ?_ | ((refine KB ?_ ?_ <;> intro hp)) | refine KG ?_ | fail)
    all_goals try (exfalso; omega)
    rename Nat => ba
    refine gcs ?_
    have hgr : ∀ r : Bool, (match opsL.find? (fun x => decide (x.1 = c)) with | some x => decide (t.op = x.2) | none => false) = r → restT c t = r := fun r h => by
      unfold restT
      rw [if_neg (by omega), if_neg (by omega), if_neg (by omega), if_neg (by omega), if_neg (by omega), if_neg (by omega), if_neg (by omega)]
      exact h
    repeat' (first | refine KK ?_ | refine NB fun b => ?_ | ((refine KB ?_ ?_ <;> intro hp)) | refine KG ?_ | fail)
    refine gc_loop (ι := Nat) (fun i => i ≤ 7 ∧ (1 ≤ i → c ≠ 68) ∧ (2 ≤ i → c ≠ 80) ∧ (3 ≤ i → c ≠ 66) ∧ (4 ≤ i → c ≠ 75) ∧ (5 ≤ i → c ≠ 82) ∧ (6 ≤ i → c ≠ 81) ∧ (7 ≤ i → c ≠ 90)) (fun i => 7 - i) (fun _ => μ) (fun i => [(7, .int .i64 i), (5, .string ⟨#[68, 80, 66, 75, 82, 81, 90]⟩), (6, .slice (some ⟨b, 0, none⟩) 7 7), (0, .int .u8 c), (3, .pointer (some ⟨ba, 0, none⟩))]) (fun _ => [.inl ⟨b, 3, 7, idx 0 [.int .i64 3, .int .i64 5, .int .i64 6, .int .i64 22, .int .i64 39, .int .i64 62, .int .i64 64]⟩, .inl ⟨ba, 27, 6, idx 0 (encT t (.slice A t.kids.length c0))⟩]) 0 (by omega) (fun a w hs => J5 hs) ?_
    rintro i ⟨hi, q0, q1, q2, q3, q4, q5, q6⟩
    have e0 : bAt ⟨#[68, 80, 66, 75, 82, 81, 90]⟩ 0 = 68 := rfl
    have e1 : bAt ⟨#[68, 80, 66, 75, 82, 81, 90]⟩ 1 = 80 := rfl
    have e2 : bAt ⟨#[68, 80, 66, 75, 82, 81, 90]⟩ 2 = 66 := rfl
    have e3 : bAt ⟨#[68, 80, 66, 75, 82, 81, 90]⟩ 3 = 75 := rfl
    have e4 : bAt ⟨#[68, 80, 66, 75, 82, 81, 90]⟩ 4 = 82 := rfl
    have e5 : bAt ⟨#[68, 80, 66, 75, 82, 81, 90]⟩ 5 = 81 := rfl
    have e6 : bAt ⟨#[68, 80, 66, 75, 82, 81, 90]⟩ 6 = 90 := rfl
    have hsz7 : ByteArray.size ⟨#[68, 80, 66, 75, 82, 81, 90]⟩ = 7 := rfl
    rcases (by omega : i = 7 ∨ i = 0 ∨ i = 1 ∨ i = 2 ∨ i = 3 ∨ i = 4 ∨ i = 5 ∨ i = 6) with rfl | rfl | rfl | rfl | rfl | rfl | rfl | rfl
    · rw [hgr false (by simp [opsL, q0, q1, q2, q3, q4, q5, q6, show ¬ (68 : Int) = c from fun h => q0 (by omega) h.symm, show ¬ (80 : Int) = c from fun h => q1 (by omega) h.symm, show ¬ (66 : Int) = c from fun h => q2 (by omega) h.symm, show ¬ (75 : Int) = c from fun h => q3 (by omega) h.symm, show ¬ (82 : Int) = c from fun h => q4 (by omega) h.symm, show ¬ (81 : Int) = c from fun h => q5 (by omega) h.symm, show ¬ (90 : Int) = c from fun h => q6 (by omega) h.symm])]
      repeat' (first | refine KK ?_ | refine NB fun b => ?_ | ((refine KB ?_ ?_ <;> intro hp)) | refine KG ?_ | fail)
      all_goals first | exact ret_s rfl rfl rfl | (exfalso; omega)
    · by_cases hc : c = 68
      · rw [hgr (decide (t.op = 3)) (by rw [hc]; rfl)]
        clear hgr
        repeat' (first | refine KO ?_ | (refine KV (b := by first | exact U2 0) (c := ?_)) | refine KI ?_ | refine NB fun b => ?_ | ((refine KB ?_ ?_ <;> intro hp)) | refine KG ?_ | fail)
        all_goals try (exfalso; omega)
        refine gc_draw 8 _ (by kernel_rfl) rfl (List.Sublist.cons_cons _ (List.Sublist.cons_cons _ (List.nil_sublist _))) ?_
        all_goals (first | refine D1 0 ?_ | (refine DV (k := 0) (b := by first | exact U1 0) (c := ?_)) | refine DD 0 ?_ | fail)
        all_goals (first | refine D1 1 ?_ | (refine DV (k := 1) (b := by first | exact U1 0) (c := ?_)) | (refine D3 1 (DW (b := by first | exact U1 0) (c := ?_))) | refine DD 1 ?_ | fail)
        all_goals refine DD 2 ?_
        all_goals refine DD 3 ?_
        all_goals (first | refine D1 4 ?_ | (refine DV (k := 4) (b := by first | exact U1 0) (c := ?_)) | refine DD 4 ?_ | fail)
        all_goals (first | refine D1 5 ?_ | (refine DV (k := 5) (b := by first | exact U1 0) (c := ?_)) | (refine D3 5 (DW (b := by first | exact U1 0) (c := ?_))) | refine DD 5 ?_ | fail)
        all_goals (first | refine D1 6 ?_ | (refine DV (k := 6) (b := by first | exact U1 0) (c := ?_)) | refine DD 6 ?_ | fail)
        all_goals refine DD 7 ?_
        all_goals refine D8 ?_
        repeat' (first | refine KK ?_ | refine NB fun b => ?_ | ((refine KB ?_ ?_ <;> intro hp)) | refine KG ?_ | fail)
        all_goals first | exact ret_s rfl rfl rfl | (exfalso; omega)
      · clear hgr
        repeat' (first | refine KO ?_ | (refine KV (b := by first | exact U2 0) (c := ?_)) | refine KI ?_ | refine NB fun b => ?_ | ((refine KB ?_ ?_ <;> intro hp)) | refine KG ?_ | fail)
        all_goals first | exact J2 1 (by omega) (by decide) | (exfalso; omega)
    · by_cases hc : c = 80
      · rw [hgr (decide (t.op = 5)) (by rw [hc]; rfl)]
        clear hgr
        repeat' (first | refine KO ?_ | (refine KV (b := by first | exact U2 1) (c := ?_)) | refine KI ?_ | refine NB fun b => ?_ | ((refine KB ?_ ?_ <;> intro hp)) | refine KG ?_ | fail)
        all_goals try (exfalso; omega)
        refine gc_draw 8 _ (by kernel_rfl) rfl (List.Sublist.cons_cons _ (List.Sublist.cons_cons _ (List.nil_sublist _))) ?_
        all_goals (first | refine D1 0 ?_ | (refine DV (k := 0) (b := by first | exact U1 1) (c := ?_)) | refine DD 0 ?_ | fail)
        all_goals (first | refine D1 1 ?_ | (refine DV (k := 1) (b := by first | exact U1 1) (c := ?_)) | (refine D3 1 (DW (b := by first | exact U1 1) (c := ?_))) | refine DD 1 ?_ | fail)
        all_goals refine DD 2 ?_
        all_goals refine DD 3 ?_
        all_goals (first | refine D1 4 ?_ | (refine DV (k := 4) (b := by first | exact U1 1) (c := ?_)) | refine DD 4 ?_ | fail)
        all_goals (first | refine D1 5 ?_ | (refine DV (k := 5) (b := by first | exact U1 1) (c := ?_)) | (refine D3 5 (DW (b := by first | exact U1 1) (c := ?_))) | refine DD 5 ?_ | fail)
        all_goals (first | refine D1 6 ?_ | (refine DV (k := 6) (b := by first | exact U1 1) (c := ?_)) | refine DD 6 ?_ | fail)
        all_goals refine DD 7 ?_
        all_goals refine D8 ?_
        repeat' (first | refine KK ?_ | refine NB fun b => ?_ | ((refine KB ?_ ?_ <;> intro hp)) | refine KG ?_ | fail)
        all_goals first | exact ret_s rfl rfl rfl | (exfalso; omega)
      · clear hgr
        repeat' (first | refine KO ?_ | (refine KV (b := by first | exact U2 1) (c := ?_)) | refine KI ?_ | refine NB fun b => ?_ | ((refine KB ?_ ?_ <;> intro hp)) | refine KG ?_ | fail)
        all_goals first | exact J2 2 (by omega) (by decide) | (exfalso; omega)
    · by_cases hc : c = 66
      · rw [hgr (decide (t.op = 6)) (by rw [hc]; rfl)]
        clear hgr
        repeat' (first | refine KO ?_ | (refine KV (b := by first | exact U2 2) (c := ?_)) | refine KI ?_ | refine NB fun b => ?_ | ((refine KB ?_ ?_ <;> intro hp)) | refine KG ?_ | fail)
        all_goals try (exfalso; omega)
        refine gc_draw 8 _ (by kernel_rfl) rfl (List.Sublist.cons_cons _ (List.Sublist.cons_cons _ (List.nil_sublist _))) ?_
        all_goals (first | refine D1 0 ?_ | (refine DV (k := 0) (b := by first | exact U1 2) (c := ?_)) | refine DD 0 ?_ | fail)
        all_goals (first | refine D1 1 ?_ | (refine DV (k := 1) (b := by first | exact U1 2) (c := ?_)) | (refine D3 1 (DW (b := by first | exact U1 2) (c := ?_))) | refine DD 1 ?_ | fail)
        all_goals refine DD 2 ?_
        all_goals refine DD 3 ?_
        all_goals (first | refine D1 4 ?_ | (refine DV (k := 4) (b := by first | exact U1 2) (c := ?_)) | refine DD 4 ?_ | fail)
        all_goals (first | refine D1 5 ?_ | (refine DV (k := 5) (b := by first | exact U1 2) (c := ?_)) | (refine D3 5 (DW (b := by first | exact U1 2) (c := ?_))) | refine DD 5 ?_ | fail)
        all_goals (first | refine D1 6 ?_ | (refine DV (k := 6) (b := by first | exact U1 2) (c := ?_)) | refine DD 6 ?_ | fail)
        all_goals refine DD 7 ?_
        all_goals refine D8 ?_
        repeat' (first | refine KK ?_ | refine NB fun b => ?_ | ((refine KB ?_ ?_ <;> intro hp)) | refine KG ?_ | fail)
        all_goals first | exact ret_s rfl rfl rfl | (exfalso; omega)
      · clear hgr
        repeat' (first | refine KO ?_ | (refine KV (b := by first | exact U2 2) (c := ?_)) | refine KI ?_ | refine NB fun b => ?_ | ((refine KB ?_ ?_ <;> intro hp)) | refine KG ?_ | fail)
        all_goals first | exact J2 3 (by omega) (by decide) | (exfalso; omega)
    · by_cases hc : c = 75
      · rw [hgr (decide (t.op = 22)) (by rw [hc]; rfl)]
        clear hgr
        repeat' (first | refine KO ?_ | (refine KV (b := by first | exact U2 3) (c := ?_)) | refine KI ?_ | refine NB fun b => ?_ | ((refine KB ?_ ?_ <;> intro hp)) | refine KG ?_ | fail)
        all_goals try (exfalso; omega)
        refine gc_draw 8 _ (by kernel_rfl) rfl (List.Sublist.cons_cons _ (List.Sublist.cons_cons _ (List.nil_sublist _))) ?_
        all_goals (first | refine D1 0 ?_ | (refine DV (k := 0) (b := by first | exact U1 3) (c := ?_)) | refine DD 0 ?_ | fail)
        all_goals (first | refine D1 1 ?_ | (refine DV (k := 1) (b := by first | exact U1 3) (c := ?_)) | (refine D3 1 (DW (b := by first | exact U1 3) (c := ?_))) | refine DD 1 ?_ | fail)
        all_goals refine DD 2 ?_
        all_goals refine DD 3 ?_
        all_goals (first | refine D1 4 ?_ | (refine DV (k := 4) (b := by first | exact U1 3) (c := ?_)) | refine DD 4 ?_ | fail)
        all_goals (first | refine D1 5 ?_ | (refine DV (k := 5) (b := by first | exact U1 3) (c := ?_)) | (refine D3 5 (DW (b := by first | exact U1 3) (c := ?_))) | refine DD 5 ?_ | fail)
        all_goals (first | refine D1 6 ?_ | (refine DV (k := 6) (b := by first | exact U1 3) (c := ?_)) | refine DD 6 ?_ | fail)
        all_goals refine DD 7 ?_
        all_goals refine D8 ?_
        repeat' (first | refine KK ?_ | refine NB fun b => ?_ | ((refine KB ?_ ?_ <;> intro hp)) | refine KG ?_ | fail)
        all_goals first | exact ret_s rfl rfl rfl | (exfalso; omega)
      · clear hgr
        repeat' (first | refine KO ?_ | (refine KV (b := by first | exact U2 3) (c := ?_)) | refine KI ?_ | refine NB fun b => ?_ | ((refine KB ?_ ?_ <;> intro hp)) | refine KG ?_ | fail)
        all_goals first | exact J2 4 (by omega) (by decide) | (exfalso; omega)
    · by_cases hc : c = 82
      · rw [hgr (decide (t.op = 39)) (by rw [hc]; rfl)]
        clear hgr
        repeat' (first | refine KO ?_ | (refine KV (b := by first | exact U2 4) (c := ?_)) | refine KI ?_ | refine NB fun b => ?_ | ((refine KB ?_ ?_ <;> intro hp)) | refine KG ?_ | fail)
        all_goals try (exfalso; omega)
        refine gc_draw 8 _ (by kernel_rfl) rfl (List.Sublist.cons_cons _ (List.Sublist.cons_cons _ (List.nil_sublist _))) ?_
        all_goals (first | refine D1 0 ?_ | (refine DV (k := 0) (b := by first | exact U1 4) (c := ?_)) | refine DD 0 ?_ | fail)
        all_goals (first | refine D1 1 ?_ | (refine DV (k := 1) (b := by first | exact U1 4) (c := ?_)) | (refine D3 1 (DW (b := by first | exact U1 4) (c := ?_))) | refine DD 1 ?_ | fail)
        all_goals refine DD 2 ?_
        all_goals refine DD 3 ?_
        all_goals (first | refine D1 4 ?_ | (refine DV (k := 4) (b := by first | exact U1 4) (c := ?_)) | refine DD 4 ?_ | fail)
        all_goals (first | refine D1 5 ?_ | (refine DV (k := 5) (b := by first | exact U1 4) (c := ?_)) | (refine D3 5 (DW (b := by first | exact U1 4) (c := ?_))) | refine DD 5 ?_ | fail)
        all_goals (first | refine D1 6 ?_ | (refine DV (k := 6) (b := by first | exact U1 4) (c := ?_)) | refine DD 6 ?_ | fail)
        all_goals refine DD 7 ?_
        all_goals refine D8 ?_
        repeat' (first | refine KK ?_ | refine NB fun b => ?_ | ((refine KB ?_ ?_ <;> intro hp)) | refine KG ?_ | fail)
        all_goals first | exact ret_s rfl rfl rfl | (exfalso; omega)
      · clear hgr
        repeat' (first | refine KO ?_ | (refine KV (b := by first | exact U2 4) (c := ?_)) | refine KI ?_ | refine NB fun b => ?_ | ((refine KB ?_ ?_ <;> intro hp)) | refine KG ?_ | fail)
        all_goals first | exact J2 5 (by omega) (by decide) | (exfalso; omega)
    · by_cases hc : c = 81
      · rw [hgr (decide (t.op = 62)) (by rw [hc]; rfl)]
        clear hgr
        repeat' (first | refine KO ?_ | (refine KV (b := by first | exact U2 5) (c := ?_)) | refine KI ?_ | refine NB fun b => ?_ | ((refine KB ?_ ?_ <;> intro hp)) | refine KG ?_ | fail)
        all_goals try (exfalso; omega)
        refine gc_draw 8 _ (by kernel_rfl) rfl (List.Sublist.cons_cons _ (List.Sublist.cons_cons _ (List.nil_sublist _))) ?_
        all_goals (first | refine D1 0 ?_ | (refine DV (k := 0) (b := by first | exact U1 5) (c := ?_)) | refine DD 0 ?_ | fail)
        all_goals (first | refine D1 1 ?_ | (refine DV (k := 1) (b := by first | exact U1 5) (c := ?_)) | (refine D3 1 (DW (b := by first | exact U1 5) (c := ?_))) | refine DD 1 ?_ | fail)
        all_goals refine DD 2 ?_
        all_goals refine DD 3 ?_
        all_goals (first | refine D1 4 ?_ | (refine DV (k := 4) (b := by first | exact U1 5) (c := ?_)) | refine DD 4 ?_ | fail)
        all_goals (first | refine D1 5 ?_ | (refine DV (k := 5) (b := by first | exact U1 5) (c := ?_)) | (refine D3 5 (DW (b := by first | exact U1 5) (c := ?_))) | refine DD 5 ?_ | fail)
        all_goals (first | refine D1 6 ?_ | (refine DV (k := 6) (b := by first | exact U1 5) (c := ?_)) | refine DD 6 ?_ | fail)
        all_goals refine DD 7 ?_
        all_goals refine D8 ?_
        repeat' (first | refine KK ?_ | refine NB fun b => ?_ | ((refine KB ?_ ?_ <;> intro hp)) | refine KG ?_ | fail)
        all_goals first | exact ret_s rfl rfl rfl | (exfalso; omega)
      · clear hgr
        repeat' (first | refine KO ?_ | (refine KV (b := by first | exact U2 5) (c := ?_)) | refine KI ?_ | refine NB fun b => ?_ | ((refine KB ?_ ?_ <;> intro hp)) | refine KG ?_ | fail)
        all_goals first | exact J2 6 (by omega) (by decide) | (exfalso; omega)
    · by_cases hc : c = 90
      · rw [hgr (decide (t.op = 64)) (by rw [hc]; rfl)]
        clear hgr
        repeat' (first | refine KO ?_ | (refine KV (b := by first | exact U2 6) (c := ?_)) | refine KI ?_ | refine NB fun b => ?_ | ((refine KB ?_ ?_ <;> intro hp)) | refine KG ?_ | fail)
        all_goals try (exfalso; omega)
        refine gc_draw 8 _ (by kernel_rfl) rfl (List.Sublist.cons_cons _ (List.Sublist.cons_cons _ (List.nil_sublist _))) ?_
        all_goals (first | refine D1 0 ?_ | (refine DV (k := 0) (b := by first | exact U1 6) (c := ?_)) | refine DD 0 ?_ | fail)
        all_goals (first | refine D1 1 ?_ | (refine DV (k := 1) (b := by first | exact U1 6) (c := ?_)) | (refine D3 1 (DW (b := by first | exact U1 6) (c := ?_))) | refine DD 1 ?_ | fail)
        all_goals refine DD 2 ?_
        all_goals refine DD 3 ?_
        all_goals (first | refine D1 4 ?_ | (refine DV (k := 4) (b := by first | exact U1 6) (c := ?_)) | refine DD 4 ?_ | fail)
        all_goals (first | refine D1 5 ?_ | (refine DV (k := 5) (b := by first | exact U1 6) (c := ?_)) | (refine D3 5 (DW (b := by first | exact U1 6) (c := ?_))) | refine DD 5 ?_ | fail)
        all_goals (first | refine D1 6 ?_ | (refine DV (k := 6) (b := by first | exact U1 6) (c := ?_)) | refine DD 6 ?_ | fail)
        all_goals refine DD 7 ?_
        all_goals refine D8 ?_
        repeat' (first | refine KK ?_ | refine NB fun b => ?_ | ((refine KB ?_ ?_ <;> intro hp)) | refine KG ?_ | fail)
        all_goals first | exact ret_s rfl rfl rfl | (exfalso; omega)
      · clear hgr
        repeat' (first | refine KO ?_ | (refine KV (b := by first | exact U2 6) (c := ?_)) | refine KI ?_ | refine NB fun b => ?_ | ((refine KB ?_ ?_ <;> intro hp)) | refine KG ?_ | fail)
        all_goals first | exact J2 7 (by omega) (by decide) | (exfalso; omega)
end Go.Proofs.YtfabmichdhbiaaaGreatDoor
namespace Go.Proofs.YtfabmichdhbiaaaGreatDoor
open Go.RowKit Go.Vcg
noncomputable def rowP : List UInt8 → List T → Bool
  | [], l => decide (l.length = 0)
  | [c], l => match l with
    | k :: r => if isT (c.toNat : Int) k = true then decide (r.length = 0) else false
    | [] => false
  | c :: d :: rr, l =>
    if d = 42 then rowP rr (l.dropWhile (isT (c.toNat : Int)))
    else match l with
      | k :: r => if isT (c.toNat : Int) k = true then (if d = 63 then rowP rr r else rowP (d :: rr) r) else (if d = 63 then rowP rr (k :: r) else false)
      | [] => if d = 63 then rowP rr [] else false
theorem rowP_star (c : UInt8) (rr : List UInt8) (l : List T) : rowP (c :: 42 :: rr) l = rowP rr (l.dropWhile (isT (c.toNat : Int))) := by
  rw [rowP.eq_def]
  simp
theorem rowP_q (c : UInt8) (rr : List UInt8) (l : List T) : rowP (c :: 63 :: rr) l = rowP rr (match l with | k :: r => if isT (c.toNat : Int) k = true then r else k :: r | [] => []) := by
  rw [rowP.eq_def]
  cases l with
  | nil => simp
  | cons k r => cases h : isT (c.toNat : Int) k <;> simp [h]
theorem rowP_d {c d : UInt8} {rr : List UInt8} {l : List T} (h1 : d ≠ 42) (h2 : d ≠ 63) : rowP (c :: d :: rr) l = match l with | k :: r => if isT (c.toNat : Int) k = true then rowP (d :: rr) r else false | [] => false := by
  rw [rowP.eq_def]
  cases l with
  | nil => simp [h1, h2]
  | cons k r => cases h : isT (c.toNat : Int) k <;> simp [h, h1, h2]
theorem rowP_nil (l : List T) : rowP [] l = decide (l.length = 0) := by rw [rowP.eq_def]
theorem rowP_1 (c : UInt8) (l : List T) : rowP [c] l = match l with | k :: r => if isT (c.toNat : Int) k = true then rowP [] r else false | [] => false := by
  rw [rowP.eq_def]
  cases l with
  | nil => simp
  | cons k r => simp [rowP_nil]
attribute [local irreducible] isT G GC GQ GA GAop Calls IntKind.wrap Int.decLt Int.decLe
theorem row_spec (s : ByteArray) (hsz : s.size ≤ 1000) (ks : List T) (A : Option Addr) (n c : Nat) (w : World) (μ : Mem) (hμ : MOk μ w) (hk : KR μ ks (.slice A n c)) (hkn : ks.length = n) (hn : n ≤ 100000) (hks : ∀ k ∈ ks, T.size k ≤ 100000 ∧ k.s.size ≤ 65536) :
    Calls Tryz.prog 24 #[.string s, .slice A n c] w fun e w' => e = .returned (.bool (rowP (bl s) ks)) ∧ Below w.heap.size w w' := by
  refine call_intro (args := [.string s, .slice A n c]) Tryz.func24 rfl Tryz.ntmps24 (by simp) hμ ?_
  have his := fun (c : Int) (t : T) (u : Value) (w : World) (μc : Mem) (hw : MOk μc w) (hk : KR μc t.kids u) (h1 : t.size ≤ 100000) (h2 : t.s.size ≤ 65536) => is_spec rest_spec c t u w μc hw hk h1 h2
  generalize hR : rowP (bl s) ks = R
  repeat' (first | refine KK ?_ | ((refine KB ?_ ?_ <;> intro hp)) | refine KG ?_ | fail)
  refine gc_loop (ι := Nat × Nat × Option Addr × Nat) (fun i => i.1 ≤ s.size ∧ i.2.1 ≤ n ∧ KR μ (ks.drop i.2.1) (.slice i.2.2.1 (n - i.2.1) i.2.2.2) ∧ rowP ((bl s).drop i.1) (ks.drop i.2.1) = R) (fun i => s.size - i.1) (fun _ => μ) (fun i => [(5, .int .i64 i.1), (0, .string s), (1, .slice i.2.2.1 (n - i.2.1) i.2.2.2)]) (fun _ => []) (0, 0, A, c) ⟨by simp, by simp, by simpa using hk, by simpa using hR⟩ (fun a w hs => J6 hs) ?_
  rintro ⟨i, j, Aj, cj⟩ ⟨hi, hj, hkj, hRj⟩
  dsimp only at hi hj hkj hRj ⊢
  by_cases hlt : i < s.size
  · obtain ⟨x, hx1, hx2⟩ := bl_at (s := s) (i := i) hlt
    have hxd := drop_cons hx1
    rw [hxd] at hRj
    have hkl : (ks.drop j).length = n - j := by rw [List.length_drop, hkn]
    by_cases hlt2 : i + 1 < s.size
    · obtain ⟨y, hy1, hy2⟩ := bl_at (s := s) (i := i + 1) hlt2
      have hyd := drop_cons hy1
      rw [hyd] at hRj
      have hyl := y.toNat_lt
      by_cases hst : y = 42
      · subst hst
        have hy3 : bAt s (i + 1) = 42 := hy2
        repeat' (first | refine KO ?_ | (refine KV (b := by first | exact U2 (i + 1)) (c := ?_)) | refine KI ?_ | ((refine KB ?_ ?_ <;> intro hp)) | refine KG ?_ | fail)
        rw [rowP_star, ← hx2] at hRj
        refine gc_loop (ι := Nat × Option Addr × Nat) (fun q => q.1 ≤ n ∧ KR μ (ks.drop q.1) (.slice q.2.1 (n - q.1) q.2.2) ∧ (ks.drop q.1).dropWhile (isT (bAt s i)) = (ks.drop j).dropWhile (isT (bAt s i))) (fun q => n - q.1) (fun _ => μ) (fun q => [(5, .int .i64 i), (0, .string s), (1, .slice q.2.1 (n - q.1) q.2.2)]) (fun _ => []) (j, Aj, cj) ⟨hj, hkj, rfl⟩ (fun a w hs => J5 hs) ?_
        rintro ⟨j2, A2, c2⟩ ⟨hj2, hk2, he2⟩
        dsimp only at hj2 hk2 he2 ⊢
        have hend : (ks.drop j2).dropWhile (isT (bAt s i)) = ks.drop j2 → rowP ((bl s).drop (i + 2)) (ks.drop j2) = R := fun h => by rw [← hRj, ← he2, h]
        by_cases hlt3 : j2 < n
        · have hkk : ks[j2]? = some ks[j2] := List.getElem?_eq_getElem (by omega)
          generalize ks[j2] = t at hkk
          have hdt := drop_cons' hkk
          have hkt := hk2.drop1 (by omega)
          rw [List.drop_drop] at hkt
          obtain ⟨A', c', e, hlc, hget⟩ := hk2.form
          have hkl2 : (ks.drop j2).length = n - j2 := by rw [List.length_drop, hkn]
          rw [hkl2] at e hlc
          cases e
          obtain ⟨ad2, u2, rfl, hm2, ho2, hkx⟩ := hget 0 t (by rw [hdt]; rfl)
          have hts := hks t (List.mem_of_getElem? hkk)
          have hcall := fun (w : World) (μc : Mem) (hw : MOk μc w) (hle : MLe μ μc) => his (bAt s i) t u2 w μc hw (hkx.mono hle) hts.1 hts.2
          cases hp1 : isT (bAt s i) t
          · have hE := hend (by rw [hdt, List.dropWhile_cons, if_neg (by simp [hp1])])
            rw [hp1] at hcall
            repeat' (first | refine KK ?_ | ((refine KB ?_ ?_ <;> intro hp)) | refine KG ?_ | fail)
            refine gc_draw 12 ([]) (by kernel_rfl) rfl (by first | exact List.Sublist.refl _ | simp) ?_
            all_goals refine DD 0 ?_
            all_goals (first | refine D1 1 ?_ | (refine DV (k := 1) (b := by first | exact U2 i | exact U1 0 | exact U4 hm2) (c := ?_)) | refine DD 1 ?_ | fail)
            all_goals (first | refine D1 2 ?_ | (refine DV (k := 2) (b := by first | exact U2 i | exact U1 0 | exact U4 hm2) (c := ?_)) | refine DD 2 ?_ | fail)
            all_goals refine DD 3 ?_
            all_goals (try (refine D7 4 ?_; (repeat' (first | refine KO ?_ | (refine KB ?_ ?_ <;> intro hp)))))
            all_goals refine DD 4 ?_
            all_goals refine DD 5 ?_
            all_goals (first | refine D1 6 ?_ | (refine DV (k := 6) (b := by first | exact U2 i | exact U1 0 | exact U4 hm2) (c := ?_)) | refine DD 6 ?_ | fail)
            all_goals refine DD 7 ?_
            all_goals (first | refine D1 8 ?_ | (refine DV (k := 8) (b := by first | exact U2 i | exact U1 0 | exact U4 hm2) (c := ?_)) | refine DD 8 ?_ | fail)
            all_goals (first | refine D1 9 ?_ | (refine DV (k := 9) (b := by first | exact U2 i | exact U1 0 | exact U4 hm2) (c := ?_)) | (refine D3 9 (DW (b := by first | exact U2 i | exact U1 0 | exact U4 hm2) (c := ?_))) | refine DD 9 ?_ | fail)
            all_goals (first | (refine D3 10 ?_; refine D5 ?_; (with_reducible apply C1); exact rfl; exact EN; exact fun w μc hw hse => hcall w μc hw hse.le; refine D9 ?_) | refine D3 10 (D6 ?_))
            all_goals refine DD 11 ?_
            all_goals refine D8 ?_
            all_goals
              repeat' (first | refine KK ?_ | ((refine KB ?_ ?_ <;> intro hp)) | refine KG ?_ | fail)
            all_goals first
              | exact J2 (i + 2, j2, _, _) ⟨by show i + 2 ≤ s.size; omega, hj2, hk2, hE⟩ (by show s.size - (i + 2) < s.size - i; omega)
              | (exfalso; omega)
          · rw [hp1] at hcall
            have hE : (ks.drop (j2 + 1)).dropWhile (isT (bAt s i)) = (ks.drop j).dropWhile (isT (bAt s i)) := by rw [← he2, hdt, List.dropWhile_cons, if_pos hp1]
            repeat' (first | refine KK ?_ | ((refine KB ?_ ?_ <;> intro hp)) | refine KG ?_ | fail)
            refine gc_draw 12 ([]) (by kernel_rfl) rfl (by first | exact List.Sublist.refl _ | simp) ?_
            all_goals refine DD 0 ?_
            all_goals (first | refine D1 1 ?_ | (refine DV (k := 1) (b := by first | exact U2 i | exact U1 0 | exact U4 hm2) (c := ?_)) | refine DD 1 ?_ | fail)
            all_goals (first | refine D1 2 ?_ | (refine DV (k := 2) (b := by first | exact U2 i | exact U1 0 | exact U4 hm2) (c := ?_)) | refine DD 2 ?_ | fail)
            all_goals refine DD 3 ?_
            all_goals (try (refine D7 4 ?_; (repeat' (first | refine KO ?_ | (refine KB ?_ ?_ <;> intro hp)))))
            all_goals refine DD 4 ?_
            all_goals refine DD 5 ?_
            all_goals (first | refine D1 6 ?_ | (refine DV (k := 6) (b := by first | exact U2 i | exact U1 0 | exact U4 hm2) (c := ?_)) | refine DD 6 ?_ | fail)
            all_goals refine DD 7 ?_
            all_goals (first | refine D1 8 ?_ | (refine DV (k := 8) (b := by first | exact U2 i | exact U1 0 | exact U4 hm2) (c := ?_)) | refine DD 8 ?_ | fail)
            all_goals (first | refine D1 9 ?_ | (refine DV (k := 9) (b := by first | exact U2 i | exact U1 0 | exact U4 hm2) (c := ?_)) | (refine D3 9 (DW (b := by first | exact U2 i | exact U1 0 | exact U4 hm2) (c := ?_))) | refine DD 9 ?_ | fail)
            all_goals (first | (refine D3 10 ?_; refine D5 ?_; (with_reducible apply C1); exact rfl; exact EN; exact fun w μc hw hse => hcall w μc hw hse.le; refine D9 ?_) | refine D3 10 (D6 ?_))
            all_goals refine DD 11 ?_
            all_goals refine D8 ?_
            all_goals
              repeat' (first | refine KO ?_ | (refine KV (b := by first | ((with_reducible apply v_slice_lo 1); exact rfl; exact rfl; exact rfl; exact rfl; exact rfl; omega)) (c := ?_)) | refine KI ?_ | ((refine KB ?_ ?_ <;> intro hp)) | refine KG ?_ | fail)
            all_goals first
              | exact J2 (j2 + 1, _, _) ⟨by show j2 + 1 ≤ n; omega, hkt, hE⟩ (by show n - (j2 + 1) < n - j2; omega)
              | (exfalso; omega)
        · obtain rfl : j2 = n := by omega
          have hdt : ks.drop j2 = [] := List.drop_of_length_le (by omega)
          have hE := hend (by rw [hdt]; rfl)
          repeat' (first | refine KK ?_ | ((refine KB ?_ ?_ <;> intro hp)) | refine KG ?_ | fail)
          refine gc_draw 12 ([]) (by kernel_rfl) rfl (by first | exact List.Sublist.refl _ | simp) ?_
          all_goals refine DD 0 ?_
          all_goals (first | refine D1 1 ?_ | (refine DV (k := 1) (b := by first | exact U2 i | exact U1 0) (c := ?_)) | refine DD 1 ?_ | fail)
          all_goals (first | refine D1 2 ?_ | (refine DV (k := 2) (b := by first | exact U2 i | exact U1 0) (c := ?_)) | refine DD 2 ?_ | fail)
          all_goals refine DD 3 ?_
          all_goals (try (refine D7 4 ?_; (repeat' (first | refine KO ?_ | (refine KB ?_ ?_ <;> intro hp)))))
          all_goals refine DD 4 ?_
          all_goals refine DD 5 ?_
          all_goals (first | refine D1 6 ?_ | (refine DV (k := 6) (b := by first | exact U2 i | exact U1 0) (c := ?_)) | refine DD 6 ?_ | fail)
          all_goals refine DD 7 ?_
          all_goals (first | refine D1 8 ?_ | (refine DV (k := 8) (b := by first | exact U2 i | exact U1 0) (c := ?_)) | refine DD 8 ?_ | fail)
          all_goals (first | refine D1 9 ?_ | (refine DV (k := 9) (b := by first | exact U2 i | exact U1 0) (c := ?_)) | (refine D3 9 (DW (b := by first | exact U2 i | exact U1 0) (c := ?_))) | refine DD 9 ?_ | fail)
          all_goals (first | (refine D3 10 ?_; refine D5 ?_; (with_reducible apply C1); exact rfl; exact EN; fail; refine D9 ?_) | refine D3 10 (D6 ?_))
          all_goals refine DD 11 ?_
          all_goals refine D8 ?_
          all_goals
            repeat' (first | refine KK ?_ | ((refine KB ?_ ?_ <;> intro hp)) | refine KG ?_ | fail)
          all_goals first
            | exact J2 (i + 2, j2, _, _) ⟨by show i + 2 ≤ s.size; omega, hj2, hk2, hE⟩ (by show s.size - (i + 2) < s.size - i; omega)
            | (exfalso; omega)
      · have hy42 : bAt s (i + 1) ≠ 42 := fun h => hst (UInt8.toNat_inj.1 (by rw [hy2] at h; simpa using (by omega : y.toNat = 42)))
        by_cases hqm : y = 63
        · subst hqm
          have hy3 : bAt s (i + 1) = 63 := hy2
          rw [rowP_q, ← hx2] at hRj
          by_cases hlt3 : j < n
          · have hkk : ks[j]? = some ks[j] := List.getElem?_eq_getElem (by omega)
            generalize ks[j] = t at hkk
            have hdt := drop_cons' hkk
            have hkt := hkj.drop1 (by omega)
            rw [List.drop_drop] at hkt
            obtain ⟨A', c', e, hlc, hget⟩ := hkj.form
            rw [hkl] at e hlc
            cases e
            obtain ⟨ad2, u2, rfl, hm2, ho2, hkx⟩ := hget 0 t (by rw [hdt]; rfl)
            have hts := hks t (List.mem_of_getElem? hkk)
            have hcall := fun (w : World) (μc : Mem) (hw : MOk μc w) (hle : MLe μ μc) => his (bAt s i) t u2 w μc hw (hkx.mono hle) hts.1 hts.2
            rw [hdt] at hRj
            dsimp only at hRj
            cases hp1 : isT (bAt s i) t
            · rw [hp1, if_neg (by simp)] at hRj
              rw [hp1] at hcall
              rw [← hdt] at hRj
              repeat' (first | refine KO ?_ | (refine KV (b := by first | exact U2 i | exact U2 (i + 1) | exact U1 0) (c := ?_)) | refine KI ?_ | ((refine KB ?_ ?_ <;> intro hp)) | refine KG ?_ | fail)
              refine gc_draw 13 ([]) (by kernel_rfl) rfl (by first | exact List.Sublist.refl _ | simp) ?_
              all_goals refine DD 0 ?_
              all_goals (first | refine D1 1 ?_ | (refine DV (k := 1) (b := by first | exact U2 i | exact U2 (i + 1) | exact U1 0 | exact U4 hm2) (c := ?_)) | refine DD 1 ?_ | fail)
              all_goals (first | refine D1 2 ?_ | (refine DV (k := 2) (b := by first | exact U2 i | exact U2 (i + 1) | exact U1 0 | exact U4 hm2) (c := ?_)) | refine DD 2 ?_ | fail)
              all_goals refine DD 3 ?_
              all_goals (try (refine D7 4 ?_; (repeat' (first | refine KO ?_ | (refine KB ?_ ?_ <;> intro hp)))))
              all_goals refine DD 4 ?_
              all_goals refine DD 5 ?_
              all_goals (first | refine D1 6 ?_ | (refine DV (k := 6) (b := by first | exact U2 i | exact U2 (i + 1) | exact U1 0 | exact U4 hm2) (c := ?_)) | refine DD 6 ?_ | fail)
              all_goals refine DD 7 ?_
              all_goals (first | refine D1 8 ?_ | (refine DV (k := 8) (b := by first | exact U2 i | exact U2 (i + 1) | exact U1 0 | exact U4 hm2) (c := ?_)) | refine DD 8 ?_ | fail)
              all_goals (first | refine D1 9 ?_ | (refine DV (k := 9) (b := by first | exact U2 i | exact U2 (i + 1) | exact U1 0 | exact U4 hm2) (c := ?_)) | (refine D3 9 (DW (b := by first | exact U2 i | exact U2 (i + 1) | exact U1 0 | exact U4 hm2) (c := ?_))) | refine DD 9 ?_ | fail)
              all_goals (first | (refine D3 10 ?_; refine D5 ?_; (with_reducible apply C1); exact rfl; exact EN; exact fun w μc hw hse => hcall w μc hw hse.le; refine D9 ?_) | refine D3 10 (D6 ?_))
              all_goals refine DD 11 ?_
              all_goals refine DD 12 ?_
              all_goals refine D8 ?_
              all_goals
                repeat' (first | refine KO ?_ | (refine KV (b := by first | ((with_reducible apply v_slice_lo 1); exact rfl; exact rfl; exact rfl; exact rfl; exact rfl; omega)) (c := ?_)) | refine KI ?_ | ((refine KB ?_ ?_ <;> intro hp)) | refine KG ?_ | fail)
              all_goals first | exact J2 (i + 2, j, _, _) ⟨by show i + 2 ≤ s.size; omega, hj, hkj, hRj⟩ (by show s.size - (i + 2) < s.size - i; omega) | (exfalso; omega)
            · rw [hp1, if_pos rfl] at hRj
              rw [hp1] at hcall
              repeat' (first | refine KO ?_ | (refine KV (b := by first | exact U2 i | exact U2 (i + 1) | exact U1 0) (c := ?_)) | refine KI ?_ | ((refine KB ?_ ?_ <;> intro hp)) | refine KG ?_ | fail)
              refine gc_draw 13 ([]) (by kernel_rfl) rfl (by first | exact List.Sublist.refl _ | simp) ?_
              all_goals refine DD 0 ?_
              all_goals (first | refine D1 1 ?_ | (refine DV (k := 1) (b := by first | exact U2 i | exact U2 (i + 1) | exact U1 0 | exact U4 hm2) (c := ?_)) | refine DD 1 ?_ | fail)
              all_goals (first | refine D1 2 ?_ | (refine DV (k := 2) (b := by first | exact U2 i | exact U2 (i + 1) | exact U1 0 | exact U4 hm2) (c := ?_)) | refine DD 2 ?_ | fail)
              all_goals refine DD 3 ?_
              all_goals (try (refine D7 4 ?_; (repeat' (first | refine KO ?_ | (refine KB ?_ ?_ <;> intro hp)))))
              all_goals refine DD 4 ?_
              all_goals refine DD 5 ?_
              all_goals (first | refine D1 6 ?_ | (refine DV (k := 6) (b := by first | exact U2 i | exact U2 (i + 1) | exact U1 0 | exact U4 hm2) (c := ?_)) | refine DD 6 ?_ | fail)
              all_goals refine DD 7 ?_
              all_goals (first | refine D1 8 ?_ | (refine DV (k := 8) (b := by first | exact U2 i | exact U2 (i + 1) | exact U1 0 | exact U4 hm2) (c := ?_)) | refine DD 8 ?_ | fail)
              all_goals (first | refine D1 9 ?_ | (refine DV (k := 9) (b := by first | exact U2 i | exact U2 (i + 1) | exact U1 0 | exact U4 hm2) (c := ?_)) | (refine D3 9 (DW (b := by first | exact U2 i | exact U2 (i + 1) | exact U1 0 | exact U4 hm2) (c := ?_))) | refine DD 9 ?_ | fail)
              all_goals (first | (refine D3 10 ?_; refine D5 ?_; (with_reducible apply C1); exact rfl; exact EN; exact fun w μc hw hse => hcall w μc hw hse.le; refine D9 ?_) | refine D3 10 (D6 ?_))
              all_goals refine DD 11 ?_
              all_goals refine DD 12 ?_
              all_goals refine D8 ?_
              all_goals
                repeat' (first | refine KO ?_ | (refine KV (b := by first | ((with_reducible apply v_slice_lo 1); exact rfl; exact rfl; exact rfl; exact rfl; exact rfl; omega)) (c := ?_)) | refine KI ?_ | ((refine KB ?_ ?_ <;> intro hp)) | refine KG ?_ | fail)
              all_goals first | exact J2 (i + 2, j + 1, _, _) ⟨by show i + 2 ≤ s.size; omega, by show j + 1 ≤ n; omega, hkt, hRj⟩ (by show s.size - (i + 2) < s.size - i; omega) | (exfalso; omega)
          · obtain rfl : j = n := by omega
            have hdt : ks.drop j = [] := List.drop_of_length_le (by omega)
            rw [hdt] at hRj
            dsimp only at hRj
            rw [← hdt] at hRj
            repeat' (first | refine KO ?_ | (refine KV (b := by first | exact U2 i | exact U2 (i + 1) | exact U1 0) (c := ?_)) | refine KI ?_ | ((refine KB ?_ ?_ <;> intro hp)) | refine KG ?_ | fail)
            refine gc_draw 13 ([]) (by kernel_rfl) rfl (by first | exact List.Sublist.refl _ | simp) ?_
            all_goals refine DD 0 ?_
            all_goals (first | refine D1 1 ?_ | (refine DV (k := 1) (b := by first | exact U2 i | exact U2 (i + 1) | exact U1 0) (c := ?_)) | refine DD 1 ?_ | fail)
            all_goals (first | refine D1 2 ?_ | (refine DV (k := 2) (b := by first | exact U2 i | exact U2 (i + 1) | exact U1 0) (c := ?_)) | refine DD 2 ?_ | fail)
            all_goals refine DD 3 ?_
            all_goals (try (refine D7 4 ?_; (repeat' (first | refine KO ?_ | (refine KB ?_ ?_ <;> intro hp)))))
            all_goals refine DD 4 ?_
            all_goals refine DD 5 ?_
            all_goals (first | refine D1 6 ?_ | (refine DV (k := 6) (b := by first | exact U2 i | exact U2 (i + 1) | exact U1 0) (c := ?_)) | refine DD 6 ?_ | fail)
            all_goals refine DD 7 ?_
            all_goals (first | refine D1 8 ?_ | (refine DV (k := 8) (b := by first | exact U2 i | exact U2 (i + 1) | exact U1 0) (c := ?_)) | refine DD 8 ?_ | fail)
            all_goals (first | refine D1 9 ?_ | (refine DV (k := 9) (b := by first | exact U2 i | exact U2 (i + 1) | exact U1 0) (c := ?_)) | (refine D3 9 (DW (b := by first | exact U2 i | exact U2 (i + 1) | exact U1 0) (c := ?_))) | refine DD 9 ?_ | fail)
            all_goals (first | (refine D3 10 ?_; refine D5 ?_; (with_reducible apply C1); exact rfl; exact EN; fail; refine D9 ?_) | refine D3 10 (D6 ?_))
            all_goals refine DD 11 ?_
            all_goals refine DD 12 ?_
            all_goals refine D8 ?_
            all_goals
              repeat' (first | refine KK ?_ | ((refine KB ?_ ?_ <;> intro hp)) | refine KG ?_ | fail)
            all_goals first | exact J2 (i + 2, j, _, _) ⟨by show i + 2 ≤ s.size; omega, hj, hkj, hRj⟩ (by show s.size - (i + 2) < s.size - i; omega) | (exfalso; omega)
        · have hy63 : bAt s (i + 1) ≠ 63 := fun h => hqm (UInt8.toNat_inj.1 (by rw [hy2] at h; simpa using (by omega : y.toNat = 63)))
          rw [rowP_d hst hqm, ← hx2, ← hyd] at hRj
          by_cases hlt3 : j < n
          · have hkk : ks[j]? = some ks[j] := List.getElem?_eq_getElem (by omega)
            generalize ks[j] = t at hkk
            have hdt := drop_cons' hkk
            have hkt := hkj.drop1 (by omega)
            rw [List.drop_drop] at hkt
            obtain ⟨A', c', e, hlc, hget⟩ := hkj.form
            rw [hkl] at e hlc
            cases e
            obtain ⟨ad2, u2, rfl, hm2, ho2, hkx⟩ := hget 0 t (by rw [hdt]; rfl)
            have hts := hks t (List.mem_of_getElem? hkk)
            have hcall := fun (w : World) (μc : Mem) (hw : MOk μc w) (hle : MLe μ μc) => his (bAt s i) t u2 w μc hw (hkx.mono hle) hts.1 hts.2
            rw [hdt] at hRj
            dsimp only at hRj
            cases hp1 : isT (bAt s i) t
            · rw [hp1, if_neg (by simp)] at hRj
              rw [hp1] at hcall
              repeat' (first | refine KO ?_ | (refine KV (b := by first | exact U2 i | exact U2 (i + 1) | exact U1 0) (c := ?_)) | refine KI ?_ | ((refine KB ?_ ?_ <;> intro hp)) | refine KG ?_ | fail)
              refine gc_draw 13 ([]) (by kernel_rfl) rfl (by first | exact List.Sublist.refl _ | simp) ?_
              all_goals refine DD 0 ?_
              all_goals (first | refine D1 1 ?_ | (refine DV (k := 1) (b := by first | exact U2 i | exact U2 (i + 1) | exact U1 0 | exact U4 hm2) (c := ?_)) | refine DD 1 ?_ | fail)
              all_goals (first | refine D1 2 ?_ | (refine DV (k := 2) (b := by first | exact U2 i | exact U2 (i + 1) | exact U1 0 | exact U4 hm2) (c := ?_)) | refine DD 2 ?_ | fail)
              all_goals refine DD 3 ?_
              all_goals (try (refine D7 4 ?_; (repeat' (first | refine KO ?_ | (refine KB ?_ ?_ <;> intro hp)))))
              all_goals refine DD 4 ?_
              all_goals refine DD 5 ?_
              all_goals (first | refine D1 6 ?_ | (refine DV (k := 6) (b := by first | exact U2 i | exact U2 (i + 1) | exact U1 0 | exact U4 hm2) (c := ?_)) | refine DD 6 ?_ | fail)
              all_goals refine DD 7 ?_
              all_goals (first | refine D1 8 ?_ | (refine DV (k := 8) (b := by first | exact U2 i | exact U2 (i + 1) | exact U1 0 | exact U4 hm2) (c := ?_)) | refine DD 8 ?_ | fail)
              all_goals (first | refine D1 9 ?_ | (refine DV (k := 9) (b := by first | exact U2 i | exact U2 (i + 1) | exact U1 0 | exact U4 hm2) (c := ?_)) | (refine D3 9 (DW (b := by first | exact U2 i | exact U2 (i + 1) | exact U1 0 | exact U4 hm2) (c := ?_))) | refine DD 9 ?_ | fail)
              all_goals (first | (refine D3 10 ?_; refine D5 ?_; (with_reducible apply C1); exact rfl; exact EN; exact fun w μc hw hse => hcall w μc hw hse.le; refine D9 ?_) | refine D3 10 (D6 ?_))
              all_goals refine DD 11 ?_
              all_goals refine DD 12 ?_
              all_goals refine D8 ?_
              all_goals
                repeat' (first | refine KO ?_ | (refine KV (b := by first | ((with_reducible apply v_slice_lo 1); exact rfl; exact rfl; exact rfl; exact rfl; exact rfl; omega)) (c := ?_)) | refine KI ?_ | ((refine KB ?_ ?_ <;> intro hp)) | refine KG ?_ | fail)
              all_goals first | exact ret_s rfl rfl (congrArg _ hRj) | (exfalso; omega)
            · rw [hp1, if_pos rfl] at hRj
              rw [hp1] at hcall
              repeat' (first | refine KO ?_ | (refine KV (b := by first | exact U2 i | exact U2 (i + 1) | exact U1 0) (c := ?_)) | refine KI ?_ | ((refine KB ?_ ?_ <;> intro hp)) | refine KG ?_ | fail)
              refine gc_draw 13 ([]) (by kernel_rfl) rfl (by first | exact List.Sublist.refl _ | simp) ?_
              all_goals refine DD 0 ?_
              all_goals (first | refine D1 1 ?_ | (refine DV (k := 1) (b := by first | exact U2 i | exact U2 (i + 1) | exact U1 0 | exact U4 hm2) (c := ?_)) | refine DD 1 ?_ | fail)
              all_goals (first | refine D1 2 ?_ | (refine DV (k := 2) (b := by first | exact U2 i | exact U2 (i + 1) | exact U1 0 | exact U4 hm2) (c := ?_)) | refine DD 2 ?_ | fail)
              all_goals refine DD 3 ?_
              all_goals (try (refine D7 4 ?_; (repeat' (first | refine KO ?_ | (refine KB ?_ ?_ <;> intro hp)))))
              all_goals refine DD 4 ?_
              all_goals refine DD 5 ?_
              all_goals (first | refine D1 6 ?_ | (refine DV (k := 6) (b := by first | exact U2 i | exact U2 (i + 1) | exact U1 0 | exact U4 hm2) (c := ?_)) | refine DD 6 ?_ | fail)
              all_goals refine DD 7 ?_
              all_goals (first | refine D1 8 ?_ | (refine DV (k := 8) (b := by first | exact U2 i | exact U2 (i + 1) | exact U1 0 | exact U4 hm2) (c := ?_)) | refine DD 8 ?_ | fail)
              all_goals (first | refine D1 9 ?_ | (refine DV (k := 9) (b := by first | exact U2 i | exact U2 (i + 1) | exact U1 0 | exact U4 hm2) (c := ?_)) | (refine D3 9 (DW (b := by first | exact U2 i | exact U2 (i + 1) | exact U1 0 | exact U4 hm2) (c := ?_))) | refine DD 9 ?_ | fail)
              all_goals (first | (refine D3 10 ?_; refine D5 ?_; (with_reducible apply C1); exact rfl; exact EN; exact fun w μc hw hse => hcall w μc hw hse.le; refine D9 ?_) | refine D3 10 (D6 ?_))
              all_goals refine DD 11 ?_
              all_goals refine DD 12 ?_
              all_goals refine D8 ?_
              all_goals
                repeat' (first | refine KO ?_ | (refine KV (b := by first | ((with_reducible apply v_slice_lo 1); exact rfl; exact rfl; exact rfl; exact rfl; exact rfl; omega)) (c := ?_)) | refine KI ?_ | ((refine KB ?_ ?_ <;> intro hp)) | refine KG ?_ | fail)
              all_goals first | exact J2 (i + 1, j + 1, _, _) ⟨by show i + 1 ≤ s.size; omega, by show j + 1 ≤ n; omega, hkt, hRj⟩ (by show s.size - (i + 1) < s.size - i; omega) | (exfalso; omega)
          · obtain rfl : j = n := by omega
            have hdt : ks.drop j = [] := List.drop_of_length_le (by omega)
            rw [hdt] at hRj
            dsimp only at hRj
            repeat' (first | refine KO ?_ | (refine KV (b := by first | exact U2 i | exact U2 (i + 1) | exact U1 0) (c := ?_)) | refine KI ?_ | ((refine KB ?_ ?_ <;> intro hp)) | refine KG ?_ | fail)
            refine gc_draw 13 ([]) (by kernel_rfl) rfl (by first | exact List.Sublist.refl _ | simp) ?_
            all_goals refine DD 0 ?_
            all_goals (first | refine D1 1 ?_ | (refine DV (k := 1) (b := by first | exact U2 i | exact U2 (i + 1) | exact U1 0) (c := ?_)) | refine DD 1 ?_ | fail)
            all_goals (first | refine D1 2 ?_ | (refine DV (k := 2) (b := by first | exact U2 i | exact U2 (i + 1) | exact U1 0) (c := ?_)) | refine DD 2 ?_ | fail)
            all_goals refine DD 3 ?_
            all_goals (try (refine D7 4 ?_; (repeat' (first | refine KO ?_ | (refine KB ?_ ?_ <;> intro hp)))))
            all_goals refine DD 4 ?_
            all_goals refine DD 5 ?_
            all_goals (first | refine D1 6 ?_ | (refine DV (k := 6) (b := by first | exact U2 i | exact U2 (i + 1) | exact U1 0) (c := ?_)) | refine DD 6 ?_ | fail)
            all_goals refine DD 7 ?_
            all_goals (first | refine D1 8 ?_ | (refine DV (k := 8) (b := by first | exact U2 i | exact U2 (i + 1) | exact U1 0) (c := ?_)) | refine DD 8 ?_ | fail)
            all_goals (first | refine D1 9 ?_ | (refine DV (k := 9) (b := by first | exact U2 i | exact U2 (i + 1) | exact U1 0) (c := ?_)) | (refine D3 9 (DW (b := by first | exact U2 i | exact U2 (i + 1) | exact U1 0) (c := ?_))) | refine DD 9 ?_ | fail)
            all_goals (first | (refine D3 10 ?_; refine D5 ?_; (with_reducible apply C1); exact rfl; exact EN; fail; refine D9 ?_) | refine D3 10 (D6 ?_))
            all_goals refine DD 11 ?_
            all_goals refine DD 12 ?_
            all_goals refine D8 ?_
            all_goals
              repeat' (first | refine KK ?_ | ((refine KB ?_ ?_ <;> intro hp)) | refine KG ?_ | fail)
            all_goals first | exact ret_s rfl rfl (congrArg _ hRj) | (exfalso; omega)
    · have hd1 : (bl s).drop (i + 1) = [] := List.drop_of_length_le (by rw [bl_len]; omega)
      rw [hd1, rowP_1, ← hx2, ← hd1] at hRj
      by_cases hlt3 : j < n
      · have hkk : ks[j]? = some ks[j] := List.getElem?_eq_getElem (by omega)
        generalize ks[j] = t at hkk
        have hdt := drop_cons' hkk
        have hkt := hkj.drop1 (by omega)
        rw [List.drop_drop] at hkt
        obtain ⟨A', c', e, hlc, hget⟩ := hkj.form
        rw [hkl] at e hlc
        cases e
        obtain ⟨ad2, u2, rfl, hm2, ho2, hkx⟩ := hget 0 t (by rw [hdt]; rfl)
        have hts := hks t (List.mem_of_getElem? hkk)
        have hcall := fun (w : World) (μc : Mem) (hw : MOk μc w) (hle : MLe μ μc) => his (bAt s i) t u2 w μc hw (hkx.mono hle) hts.1 hts.2
        rw [hdt] at hRj
        dsimp only at hRj
        cases hp1 : isT (bAt s i) t
        · rw [hp1, if_neg (by simp)] at hRj
          rw [hp1] at hcall
          repeat' (first | refine KO ?_ | (refine KV (b := by first | exact U2 i | exact U2 (i + 1) | exact U1 0) (c := ?_)) | refine KI ?_ | ((refine KB ?_ ?_ <;> intro hp)) | refine KG ?_ | fail)
          refine gc_draw 13 ([]) (by kernel_rfl) rfl (by first | exact List.Sublist.refl _ | simp) ?_
          all_goals refine DD 0 ?_
          all_goals (first | refine D1 1 ?_ | (refine DV (k := 1) (b := by first | exact U2 i | exact U2 (i + 1) | exact U1 0 | exact U4 hm2) (c := ?_)) | refine DD 1 ?_ | fail)
          all_goals (first | refine D1 2 ?_ | (refine DV (k := 2) (b := by first | exact U2 i | exact U2 (i + 1) | exact U1 0 | exact U4 hm2) (c := ?_)) | refine DD 2 ?_ | fail)
          all_goals refine DD 3 ?_
          all_goals (try (refine D7 4 ?_; (repeat' (first | refine KO ?_ | (refine KB ?_ ?_ <;> intro hp)))))
          all_goals refine DD 4 ?_
          all_goals refine DD 5 ?_
          all_goals (first | refine D1 6 ?_ | (refine DV (k := 6) (b := by first | exact U2 i | exact U2 (i + 1) | exact U1 0 | exact U4 hm2) (c := ?_)) | refine DD 6 ?_ | fail)
          all_goals refine DD 7 ?_
          all_goals (first | refine D1 8 ?_ | (refine DV (k := 8) (b := by first | exact U2 i | exact U2 (i + 1) | exact U1 0 | exact U4 hm2) (c := ?_)) | refine DD 8 ?_ | fail)
          all_goals (first | refine D1 9 ?_ | (refine DV (k := 9) (b := by first | exact U2 i | exact U2 (i + 1) | exact U1 0 | exact U4 hm2) (c := ?_)) | (refine D3 9 (DW (b := by first | exact U2 i | exact U2 (i + 1) | exact U1 0 | exact U4 hm2) (c := ?_))) | refine DD 9 ?_ | fail)
          all_goals (first | (refine D3 10 ?_; refine D5 ?_; (with_reducible apply C1); exact rfl; exact EN; exact fun w μc hw hse => hcall w μc hw hse.le; refine D9 ?_) | refine D3 10 (D6 ?_))
          all_goals refine DD 11 ?_
          all_goals refine DD 12 ?_
          all_goals refine D8 ?_
          all_goals
            repeat' (first | refine KO ?_ | (refine KV (b := by first | ((with_reducible apply v_slice_lo 1); exact rfl; exact rfl; exact rfl; exact rfl; exact rfl; omega)) (c := ?_)) | refine KI ?_ | ((refine KB ?_ ?_ <;> intro hp)) | refine KG ?_ | fail)
          all_goals first | exact ret_s rfl rfl (congrArg _ hRj) | (exfalso; omega)
        · rw [hp1, if_pos rfl] at hRj
          rw [hp1] at hcall
          repeat' (first | refine KO ?_ | (refine KV (b := by first | exact U2 i | exact U2 (i + 1) | exact U1 0) (c := ?_)) | refine KI ?_ | ((refine KB ?_ ?_ <;> intro hp)) | refine KG ?_ | fail)
          refine gc_draw 13 ([]) (by kernel_rfl) rfl (by first | exact List.Sublist.refl _ | simp) ?_
          all_goals refine DD 0 ?_
          all_goals (first | refine D1 1 ?_ | (refine DV (k := 1) (b := by first | exact U2 i | exact U2 (i + 1) | exact U1 0 | exact U4 hm2) (c := ?_)) | refine DD 1 ?_ | fail)
          all_goals (first | refine D1 2 ?_ | (refine DV (k := 2) (b := by first | exact U2 i | exact U2 (i + 1) | exact U1 0 | exact U4 hm2) (c := ?_)) | refine DD 2 ?_ | fail)
          all_goals refine DD 3 ?_
          all_goals (try (refine D7 4 ?_; (repeat' (first | refine KO ?_ | (refine KB ?_ ?_ <;> intro hp)))))
          all_goals refine DD 4 ?_
          all_goals refine DD 5 ?_
          all_goals (first | refine D1 6 ?_ | (refine DV (k := 6) (b := by first | exact U2 i | exact U2 (i + 1) | exact U1 0 | exact U4 hm2) (c := ?_)) | refine DD 6 ?_ | fail)
          all_goals refine DD 7 ?_
          all_goals (first | refine D1 8 ?_ | (refine DV (k := 8) (b := by first | exact U2 i | exact U2 (i + 1) | exact U1 0 | exact U4 hm2) (c := ?_)) | refine DD 8 ?_ | fail)
          all_goals (first | refine D1 9 ?_ | (refine DV (k := 9) (b := by first | exact U2 i | exact U2 (i + 1) | exact U1 0 | exact U4 hm2) (c := ?_)) | (refine D3 9 (DW (b := by first | exact U2 i | exact U2 (i + 1) | exact U1 0 | exact U4 hm2) (c := ?_))) | refine DD 9 ?_ | fail)
          all_goals (first | (refine D3 10 ?_; refine D5 ?_; (with_reducible apply C1); exact rfl; exact EN; exact fun w μc hw hse => hcall w μc hw hse.le; refine D9 ?_) | refine D3 10 (D6 ?_))
          all_goals refine DD 11 ?_
          all_goals refine DD 12 ?_
          all_goals refine D8 ?_
          all_goals
            repeat' (first | refine KO ?_ | (refine KV (b := by first | ((with_reducible apply v_slice_lo 1); exact rfl; exact rfl; exact rfl; exact rfl; exact rfl; omega)) (c := ?_)) | refine KI ?_ | ((refine KB ?_ ?_ <;> intro hp)) | refine KG ?_ | fail)
          all_goals first | exact J2 (i + 1, j + 1, _, _) ⟨by show i + 1 ≤ s.size; omega, by show j + 1 ≤ n; omega, hkt, hRj⟩ (by show s.size - (i + 1) < s.size - i; omega) | (exfalso; omega)
      · obtain rfl : j = n := by omega
        have hdt : ks.drop j = [] := List.drop_of_length_le (by omega)
        rw [hdt] at hRj
        dsimp only at hRj
        repeat' (first | refine KO ?_ | (refine KV (b := by first | exact U2 i | exact U2 (i + 1) | exact U1 0) (c := ?_)) | refine KI ?_ | ((refine KB ?_ ?_ <;> intro hp)) | refine KG ?_ | fail)
        refine gc_draw 13 ([]) (by kernel_rfl) rfl (by first | exact List.Sublist.refl _ | simp) ?_
        all_goals refine DD 0 ?_
        all_goals (first | refine D1 1 ?_ | (refine DV (k := 1) (b := by first | exact U2 i | exact U2 (i + 1) | exact U1 0) (c := ?_)) | refine DD 1 ?_ | fail)
        all_goals (first | refine D1 2 ?_ | (refine DV (k := 2) (b := by first | exact U2 i | exact U2 (i + 1) | exact U1 0) (c := ?_)) | refine DD 2 ?_ | fail)
        all_goals refine DD 3 ?_
        all_goals (try (refine D7 4 ?_; (repeat' (first | refine KO ?_ | (refine KB ?_ ?_ <;> intro hp)))))
        all_goals refine DD 4 ?_
        all_goals refine DD 5 ?_
        all_goals (first | refine D1 6 ?_ | (refine DV (k := 6) (b := by first | exact U2 i | exact U2 (i + 1) | exact U1 0) (c := ?_)) | refine DD 6 ?_ | fail)
        all_goals refine DD 7 ?_
        all_goals (first | refine D1 8 ?_ | (refine DV (k := 8) (b := by first | exact U2 i | exact U2 (i + 1) | exact U1 0) (c := ?_)) | refine DD 8 ?_ | fail)
        all_goals (first | refine D1 9 ?_ | (refine DV (k := 9) (b := by first | exact U2 i | exact U2 (i + 1) | exact U1 0) (c := ?_)) | (refine D3 9 (DW (b := by first | exact U2 i | exact U2 (i + 1) | exact U1 0) (c := ?_))) | refine DD 9 ?_ | fail)
        all_goals (first | (refine D3 10 ?_; refine D5 ?_; (with_reducible apply C1); exact rfl; exact EN; fail; refine D9 ?_) | refine D3 10 (D6 ?_))
        all_goals refine DD 11 ?_
        all_goals refine DD 12 ?_
        all_goals refine D8 ?_
        all_goals
          repeat' (first | refine KK ?_ | ((refine KB ?_ ?_ <;> intro hp)) | refine KG ?_ | fail)
        all_goals first | exact ret_s rfl rfl (congrArg _ hRj) | (exfalso; omega)
  · obtain rfl : i = s.size := by omega
    rw [List.drop_of_length_le (by rw [bl_len]; omega)] at hRj
    have hR2 : decide (n - j = 0) = R := by rw [← hRj, ← hkn, ← List.length_drop, rowP_nil]
    repeat' (first | refine KK ?_ | ((refine KB ?_ ?_ <;> intro hp)) | refine KG ?_ | fail)
    refine ret_s rfl rfl ?_
    rw [← hR2]
    congr 1
    simp
    try omega
end Go.Proofs.YtfabmichdhbiaaaGreatDoor
