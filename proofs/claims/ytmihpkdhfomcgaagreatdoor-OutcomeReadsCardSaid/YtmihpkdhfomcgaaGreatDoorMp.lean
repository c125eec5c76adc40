/- The reference reads an event. (and what leans on it). No statement of the seat is proved here. -/
import Derived.Test.YtmihpkdhfomcgaaGreatDoorMo
import Derived.Test.YtmihpkdhfomcgaaGreatDoorSt
set_option maxRecDepth 20000
set_option maxHeartbeats 2000000
namespace Go.Proofs.YtmihpkdhfomcgaaGreatDoor
open Go.RowKit Go.Vcg Ou
structure LnP where
  (word : List UInt8) (n at_ : Int) (s : ByteArray) (e : EvP)
def zeroE : EvP := ⟨0, ⟨0, 0, ⟨#[]⟩⟩, ⟨#[]⟩⟩
def zeroLn : LnP := ⟨[], 0, 0, ⟨#[]⟩, zeroE⟩
abbrev encLn (x : LnP) : List Value := [.string (ofB x.word), .int .i64 x.n, .int .i64 x.at_, .string x.s, .int .i64 x.e.kind, .int .i64 x.e.key.kind, .int .i64 x.e.key.n, .string x.e.key.s, .string x.e.s]
def lnOf : LineR → LnP
  | .error e n => ⟨[101, 114, 114, 111, 114], e, n, ⟨#[]⟩, zeroE⟩
  | .ends k t => ⟨[101, 110, 100, 115], k, 0, ofB t, zeroE⟩
  | .steps n => ⟨[115, 116, 101, 112, 115], n, 0, ⟨#[]⟩, zeroE⟩
  | .made n => ⟨[109, 97, 100, 101], n, 0, ⟨#[]⟩, zeroE⟩
  | .out t => ⟨[111, 117, 116], 0, 0, ofB t, zeroE⟩
  | .event e => ⟨[101, 118, 101, 110, 116], 0, 0, ⟨#[]⟩, e⟩
def LnPost (r : Option LineR) (v : Value) : Prop := ∃ ln ok, v = .tuple #[.agg (encLn ln).toArray, .bool ok] ∧ match r with
  | some x => ok = true ∧ ln = lnOf x
  | none => ok = false
theorem toCu_none {l : List UInt8} {i : Nat} (hi : i ≤ l.length + 1) : toCu l i = none ↔ i = l.length + 1 := by
  unfold toCu
  split
  · simp; omega
  · simp; omega
theorem wordC_nil {l : List UInt8} {i : Nat} (h : (wordC l i false).2.2 = true) : (wordC l i false).1 = [] := by
  unfold wordC at h ⊢
  split
  · rfl
  · rename_i h0
    rw [if_neg h0] at h
    simpa using h
theorem numC_in {l : List UInt8} {i : Nat} : inB (numC l i false).1 := by
  unfold numC
  cases h : numB (wordC l i false).1 with
  | some n => exact (numB_some h).1
  | none => exact ⟨show (0 : Int) ≤ 0 by decide, show (0 : Int) ≤ 9007199254740992 by decide⟩
theorem numC_i {l : List UInt8} {i : Nat} {bad : Bool} (hi : i ≤ l.length + 1) : (numC l i bad).2.1 ≤ l.length + 1 := by
  unfold numC
  split <;> exact wordC_i hi
theorem quoC_len {l : List UInt8} {i : Nat} : (quoC l i false).1.length ≤ 65536 := by
  unfold quoC
  split
  · simp
  · rename_i t u h
    split
    · exact readL_len h
    · simp
theorem ev_kind {w : List UInt8} {k : Int} (h : findB evT' w = some k) : 1 ≤ k ∧ k ≤ 13 := by
  have key : ∀ x ∈ evT', 1 ≤ x.1 ∧ x.1 ≤ 13 := by decide +kernel
  exact key _ (findB_some h)
theorem eventR_eq (c : Cu) : eventR keyR c = match wordR c with
    | none => none
    | some (w, c1) => match wordR c1 with
      | none => none
      | some (k, c2) => match findB evT' w with
        | none => none
        | some kind => match keyC k c2 with
          | none => none
          | some (kk, c3) => match quotedR c3 with
            | some (s, none) => if keyR kk = true then some ⟨kind, kk, ofB s⟩ else none
            | _ => none := rfl
attribute [local irreducible] G GC GQ GA GAop Calls IntKind.wrap Int.decLt Int.decLe rcount2 wordC numC quoC readL keyR idxF
theorem readEvent_spec (l : List UInt8) (i : Nat) (hl : l.length ≤ 1000000) (hi : i ≤ l.length + 1) (w : World) (μ : Mem) (hμ : MOk μ w) :
    Calls Tryz.prog 36 #[.agg (curV l i false).toArray] w fun en w' => ∃ v μ', en = .returned v ∧ Grow w w' μ μ' ∧ LnPost ((eventR keyR (toCu l i)).map .event) v := by
  refine call_intro (args := [.agg (curV l i false).toArray]) Tryz.func36 rfl Tryz.ntmps36 (by simp) hμ ?_
  have hev0 := eventR_eq (toCu l i)
  rw [toCu_word l i hi] at hev0
  have hwd1 := fun (w : World) (μ : Mem) (hμ : MOk μ w) => word_spec l i false hl (by omega) w μ hμ
  have hi1 := wordC_i (bad := false) hi
  have hn1 := wordC_nil (l := l) (i := i)
  generalize (wordC l i false).1 = u at hwd1 hn1 hev0 ⊢
  generalize (wordC l i false).2.1 = i1 at hwd1 hi1 hev0 ⊢
  cases hb1 : (wordC l i false).2.2 with
  | true =>
    rw [hb1] at hwd1 hev0
    have hu := hn1 hb1
    subst hu
    rw [if_pos rfl] at hev0
    have hev : (eventR keyR (toCu l i)).map LineR.event = none := by rw [hev0]; rfl
    have hwd2 := fun (w : World) (μ : Mem) (hμ : MOk μ w) => word_spec l i1 true hl (by omega) w μ hμ
    generalize (wordC l i1 true).1 = k at hwd2 ⊢
    generalize (wordC l i1 true).2.1 = i2 at hwd2 ⊢
    generalize (wordC l i1 true).2.2 = b2 at hwd2 ⊢
    have hkd := place_nil kindL 0
    obtain ⟨u, hu⟩ : ∃ u : List UInt8, u = [] := ⟨_, rfl⟩
    rw [← hu] at hwd1 hkd
    obtain ⟨ky, hky⟩ : ∃ ky, placeB k keyL 0 = ky := ⟨_, rfl⟩
    repeat' (first | refine KO ?_ | ((with_reducible apply F1 29); exact rfl; exact EN; first | (exact fun w μc hw hse => hwd1 w μc hw) | (exact fun w μc hw hse => hwd2 w μc hw)) | ((with_reducible apply F2 55); exact rfl; exact EN; (exact fun w hw => rkinds_spec w _ hw); rintro v1 μ1 hle1 ⟨A1, rfl, hs1⟩) | ((with_reducible apply F2 56); exact rfl; exact EN; (exact fun w hw => rkeys_spec w _ hw); rintro v2 μ2 hle2 ⟨A2, rfl, hs2⟩) | ((with_reducible apply F1 31); exact rfl; exact EN; first | (exact fun w μc hw hse => by have := place_spec u kindL A1 14 14 (by decide) w μc hw (hs1.mono hse.le); rw [hkd] at this; exact this) | (exact fun w μc hw hse => by have := place_spec k keyL A2 3 3 (by decide) w μc hw (hs2.mono hse.le); rw [hky] at this; exact this)) | refine KI ?_ | refine NB fun b => ?_ | ((refine KB ?_ ?_ <;> intro hp)) | refine KG ?_ | fail)
    all_goals first | (exfalso; first | omega | contradiction | (exact absurd ‹_› ‹¬ _›)) | skip
    all_goals exact ret_m2 rfl (rv_agg (vs := [.string ⟨#[]⟩, .int .i64 0, .int .i64 0, .string ⟨#[]⟩, .int .i64 0, .int .i64 0, .int .i64 0, .string ⟨#[]⟩, .string ⟨#[]⟩]) 3 rfl rfl rfl rfl rfl (by repeat first | exact lc_nil | refine lc_cons rfl ?_)) (rv_tmp rfl) (fun μ' _ _ => ⟨zeroLn, false, rfl, by rw [hev]⟩)
  | false =>
    rw [hb1] at hwd1 hev0
    rw [if_neg (by simp)] at hev0
    dsimp only at hev0
    rw [toCu_word l i1 hi1] at hev0
    have hwd2 := fun (w : World) (μ : Mem) (hμ : MOk μ w) => word_spec l i1 false hl (by omega) w μ hμ
    have hi2 := wordC_i (bad := false) hi1
    generalize (wordC l i1 false).1 = k at hwd2 hev0 ⊢
    generalize (wordC l i1 false).2.1 = i2 at hwd2 hi2 hev0 ⊢
    have hkdf := place_kind u
    have hkyf := place_key k
    obtain ⟨kd, hkd⟩ : ∃ kd, placeB u kindL 0 = kd := ⟨_, rfl⟩
    obtain ⟨ky, hky⟩ : ∃ ky, placeB k keyL 0 = ky := ⟨_, rfl⟩
    rw [hkd] at hkdf
    rw [hky] at hkyf
    cases hb2 : (wordC l i1 false).2.2 with
    | true =>
      rw [hb2] at hwd2 hev0
      rw [if_pos rfl] at hev0
      have hev : (eventR keyR (toCu l i)).map LineR.event = none := by rw [hev0]; rfl
      repeat' (first | refine KO ?_ | ((with_reducible apply F1 29); exact rfl; exact EN; first | (exact fun w μc hw hse => hwd1 w μc hw) | (exact fun w μc hw hse => hwd2 w μc hw)) | ((with_reducible apply F2 55); exact rfl; exact EN; (exact fun w hw => rkinds_spec w _ hw); rintro v1 μ1 hle1 ⟨A1, rfl, hs1⟩) | ((with_reducible apply F2 56); exact rfl; exact EN; (exact fun w hw => rkeys_spec w _ hw); rintro v2 μ2 hle2 ⟨A2, rfl, hs2⟩) | ((with_reducible apply F1 31); exact rfl; exact EN; first | (exact fun w μc hw hse => by have := place_spec u kindL A1 14 14 (by decide) w μc hw (hs1.mono hse.le); rw [hkd] at this; exact this) | (exact fun w μc hw hse => by have := place_spec k keyL A2 3 3 (by decide) w μc hw (hs2.mono hse.le); rw [hky] at this; exact this)) | refine KI ?_ | refine NB fun b => ?_ | ((refine KB ?_ ?_ <;> intro hp)) | refine KG ?_ | fail)
      all_goals first | (exfalso; first | omega | contradiction | (exact absurd ‹_› ‹¬ _›)) | skip
      all_goals exact ret_m2 rfl (rv_agg (vs := [.string ⟨#[]⟩, .int .i64 0, .int .i64 0, .string ⟨#[]⟩, .int .i64 0, .int .i64 0, .int .i64 0, .string ⟨#[]⟩, .string ⟨#[]⟩]) 3 rfl rfl rfl rfl rfl (by repeat first | exact lc_nil | refine lc_cons rfl ?_)) (rv_tmp rfl) (fun μ' _ _ => ⟨zeroLn, false, rfl, by rw [hev]⟩)
    | false =>
    rw [hb2] at hwd2 hev0
    rw [if_neg (by simp)] at hev0
    dsimp only at hev0
    cases hf : findB evT' u with
    | none =>
      rw [hf] at hkdf hev0
      dsimp only at hkdf
      have hev : (eventR keyR (toCu l i)).map LineR.event = none := by rw [hev0]; rfl
      repeat' (first | refine KO ?_ | ((with_reducible apply F1 29); exact rfl; exact EN; first | (exact fun w μc hw hse => hwd1 w μc hw) | (exact fun w μc hw hse => hwd2 w μc hw)) | ((with_reducible apply F2 55); exact rfl; exact EN; (exact fun w hw => rkinds_spec w _ hw); rintro v1 μ1 hle1 ⟨A1, rfl, hs1⟩) | ((with_reducible apply F2 56); exact rfl; exact EN; (exact fun w hw => rkeys_spec w _ hw); rintro v2 μ2 hle2 ⟨A2, rfl, hs2⟩) | ((with_reducible apply F1 31); exact rfl; exact EN; first | (exact fun w μc hw hse => by have := place_spec u kindL A1 14 14 (by decide) w μc hw (hs1.mono hse.le); rw [hkd] at this; exact this) | (exact fun w μc hw hse => by have := place_spec k keyL A2 3 3 (by decide) w μc hw (hs2.mono hse.le); rw [hky] at this; exact this)) | refine KI ?_ | refine NB fun b => ?_ | ((refine KB ?_ ?_ <;> intro hp)) | refine KG ?_ | fail)
      all_goals first | (exfalso; first | omega | contradiction | (exact absurd ‹_› ‹¬ _›)) | skip
      all_goals exact ret_m2 rfl (rv_agg (vs := [.string ⟨#[]⟩, .int .i64 0, .int .i64 0, .string ⟨#[]⟩, .int .i64 0, .int .i64 0, .int .i64 0, .string ⟨#[]⟩, .string ⟨#[]⟩]) 3 rfl rfl rfl rfl rfl (by repeat first | exact lc_nil | refine lc_cons rfl ?_)) (rv_tmp rfl) (fun μ' _ _ => ⟨zeroLn, false, rfl, by rw [hev]⟩)
    | some kind =>
    have hkr := ev_kind hf
    rw [hf] at hkdf hev0
    dsimp only at hkdf hev0
    subst hkdf
    unfold keyC at hev0
    by_cases hk0 : k = [105, 110, 100, 101, 120]
    · rw [if_pos hk0] at hkyf hev0
      subst hkyf
      rw [toCu_num l i2 hi2] at hev0
      have hns := fun (w : World) (μ : Mem) (hμ : MOk μ w) => number_spec l i2 false hl hi2 w μ hμ
      have hi3 := numC_i (bad := false) hi2
      have hin := numC_in (l := l) (i := i2)
      generalize (numC l i2 false).1 = n at hns hin hev0 ⊢
      generalize (numC l i2 false).2.1 = i3 at hns hi3 hev0 ⊢
      cases hb3 : (numC l i2 false).2.2 with
      | true =>
        rw [hb3] at hns hev0
        rw [if_pos rfl] at hev0
        have hev : (eventR keyR (toCu l i)).map LineR.event = none := by rw [hev0]; rfl
        repeat' (first | refine KO ?_ | ((with_reducible apply F1 29); exact rfl; exact EN; first | (exact fun w μc hw hse => hwd1 w μc hw) | (exact fun w μc hw hse => hwd2 w μc hw)) | ((with_reducible apply F2 55); exact rfl; exact EN; (exact fun w hw => rkinds_spec w _ hw); rintro v1 μ1 hle1 ⟨A1, rfl, hs1⟩) | ((with_reducible apply F2 56); exact rfl; exact EN; (exact fun w hw => rkeys_spec w _ hw); rintro v2 μ2 hle2 ⟨A2, rfl, hs2⟩) | ((with_reducible apply F1 31); exact rfl; exact EN; first | (exact fun w μc hw hse => by have := place_spec u kindL A1 14 14 (by decide) w μc hw (hs1.mono hse.le); rw [hkd] at this; exact this) | (exact fun w μc hw hse => by have := place_spec k keyL A2 3 3 (by decide) w μc hw (hs2.mono hse.le); rw [hky] at this; exact this)) | ((with_reducible apply F1 32); exact rfl; exact EN; (exact fun w μc hw hse => hns w μc hw)) | refine KI ?_ | refine NB fun b => ?_ | ((refine KB ?_ ?_ <;> intro hp)) | refine KG ?_ | fail)
        all_goals first | (exfalso; first | omega | contradiction | (exact absurd ‹_› ‹¬ _›)) | skip
        all_goals exact ret_m2 rfl (rv_agg (vs := [.string ⟨#[]⟩, .int .i64 0, .int .i64 0, .string ⟨#[]⟩, .int .i64 0, .int .i64 0, .int .i64 0, .string ⟨#[]⟩, .string ⟨#[]⟩]) 4 rfl rfl rfl rfl rfl (by repeat first | exact lc_nil | refine lc_cons rfl ?_)) (rv_tmp rfl) (fun μ' _ _ => ⟨zeroLn, false, rfl, by rw [hev]⟩)
      | false =>
      rw [hb3] at hns hev0
      rw [if_neg (by simp)] at hev0
      dsimp only [Option.map] at hev0
      have hks : (⟨#[]⟩ : ByteArray).size ≤ 9223372036854775807 := by decide
      rw [toCu_quo l i3 hi3] at hev0
      have hqs := fun (w : World) (μ : Mem) (hμ : MOk μ w) => quoted_spec57 l i3 false hl hi3 w μ hμ
      have hi4 := quoC_i (bad := false) hi3
      generalize (quoC l i3 false).1 = s at hqs hev0 ⊢
      generalize (quoC l i3 false).2.1 = i4 at hqs hi4 hev0 ⊢
      have hcn := toCu_none hi4
      have hmay := fun (w : World) (μ : Mem) (hμ : MOk μ w) => rmay_spec ⟨kd, (KeyP.mk 0 n ⟨#[]⟩), ofB s⟩ hks w μ hμ
      rw [decide_eq_true hkr, decide_eq_true hin] at hmay
      simp only [Bool.true_and, Bool.and_true] at hmay
      cases hb4 : (quoC l i3 false).2.2 with
      | true =>
        rw [hb4] at hqs hev0
        rw [if_pos rfl] at hev0
        have hev : (eventR keyR (toCu l i)).map LineR.event = none := by rw [hev0]; rfl
        have hov := fun (w : World) (μ : Mem) (hμ : MOk μ w) => over_spec l i4 true hl (by omega) w μ hμ
        simp only [Bool.not_true, Bool.false_and] at hov
        repeat' (first | refine KO ?_ | ((with_reducible apply F1 29); exact rfl; exact EN; first | (exact fun w μc hw hse => hwd1 w μc hw) | (exact fun w μc hw hse => hwd2 w μc hw)) | ((with_reducible apply F2 55); exact rfl; exact EN; (exact fun w hw => rkinds_spec w _ hw); rintro v1 μ1 hle1 ⟨A1, rfl, hs1⟩) | ((with_reducible apply F2 56); exact rfl; exact EN; (exact fun w hw => rkeys_spec w _ hw); rintro v2 μ2 hle2 ⟨A2, rfl, hs2⟩) | ((with_reducible apply F1 31); exact rfl; exact EN; first | (exact fun w μc hw hse => by have := place_spec u kindL A1 14 14 (by decide) w μc hw (hs1.mono hse.le); rw [hkd] at this; exact this) | (exact fun w μc hw hse => by have := place_spec k keyL A2 3 3 (by decide) w μc hw (hs2.mono hse.le); rw [hky] at this; exact this)) | ((with_reducible apply F1 32); exact rfl; exact EN; (exact fun w μc hw hse => hns w μc hw)) | ((with_reducible apply F1 35); exact rfl; exact EN; (exact fun w μc hw hse => hqs w μc hw)) | refine KI ?_ | refine NB fun b => ?_ | ((refine KB ?_ ?_ <;> intro hp)) | refine KG ?_ | fail)
        all_goals first | (exfalso; first | omega | contradiction | (exact absurd ‹_› ‹¬ _›)) | skip
        refine gc_draw 10 _ (by kernel_rfl) rfl (List.Sublist.cons_cons _ (List.Sublist.cons _ (List.Sublist.cons_cons _ (List.Sublist.cons _ (List.Sublist.cons _ (List.Sublist.cons _ (List.Sublist.cons _ (List.nil_sublist _)))))))) ?_
        all_goals refine DD 0 ?_
        all_goals refine DD 1 ?_
        all_goals refine DD 2 ?_
        all_goals (first | (refine D3 3 ?_; refine D5 ?_; (first | ((with_reducible apply F1 33); exact rfl; exact EN; (exact fun w μc hw hse => hov w μc hw)) | ((with_reducible apply F1 57); exact rfl; exact EN; (exact fun w μc hw hse => hmay w μc hw))); refine D9 ?_))
        all_goals refine DD 4 ?_
        all_goals (try (refine D7 5 ?_; (repeat' (first | refine KO ?_ | (refine KB ?_ ?_ <;> intro hp)))))
        all_goals refine DD 5 ?_
        all_goals (first | (refine D3 6 ?_; refine D5 ?_; (first | ((with_reducible apply F1 33); exact rfl; exact EN; (exact fun w μc hw hse => hov w μc hw)) | ((with_reducible apply F1 57); exact rfl; exact EN; (exact fun w μc hw hse => hmay w μc hw))); refine D9 ?_) | refine D3 6 (D6 ?_))
        all_goals refine DD 7 ?_
        all_goals (first | (refine D3 8 ?_; refine D5 ?_; refine Y0 ?_; refine D9 ?_))
        all_goals refine DD 9 ?_
        all_goals refine D8 ?_
        repeat' (first | refine KK ?_ | refine NB fun b => ?_ | ((refine KB ?_ ?_ <;> intro hp)) | refine KG ?_ | fail)
        all_goals first | (exfalso; first | omega | contradiction | (exact absurd ‹_› ‹¬ _›)) | skip
        exact ret_m2 rfl (rv_agg (vs := [.string (ofB [101, 118, 101, 110, 116]), .int .i64 0, .int .i64 0, .string ⟨#[]⟩, .int .i64 kd, .int .i64 (KeyP.mk 0 n ⟨#[]⟩).kind, .int .i64 (KeyP.mk 0 n ⟨#[]⟩).n, .string (KeyP.mk 0 n ⟨#[]⟩).s, .string (ofB s)]) 5 rfl rfl rfl rfl rfl (by repeat first | exact lc_nil | refine lc_cons rfl ?_)) (rv_tmp rfl) (fun μ' _ _ => ⟨lnOf (.event ⟨kd, (KeyP.mk 0 n ⟨#[]⟩), ofB s⟩), false, rfl, by rw [hev]⟩)
      | false =>
      rw [hb4] at hqs hev0
      rw [if_neg (by simp)] at hev0
      try dsimp only at hev0
      have hov := fun (w : World) (μ : Mem) (hμ : MOk μ w) => over_spec l i4 false hl (by omega) w μ hμ
      simp only [Bool.not_false, Bool.true_and] at hov
      by_cases hend : i4 = l.length + 1
      rotate_left
      · rw [decide_eq_false hend] at hov
        have hev : (eventR keyR (toCu l i)).map LineR.event = none := by
          rw [hev0]
          cases hc : toCu l i4 with
          | none => exact absurd (hcn.1 hc) hend
          | some z => rfl
        repeat' (first | refine KO ?_ | ((with_reducible apply F1 29); exact rfl; exact EN; first | (exact fun w μc hw hse => hwd1 w μc hw) | (exact fun w μc hw hse => hwd2 w μc hw)) | ((with_reducible apply F2 55); exact rfl; exact EN; (exact fun w hw => rkinds_spec w _ hw); rintro v1 μ1 hle1 ⟨A1, rfl, hs1⟩) | ((with_reducible apply F2 56); exact rfl; exact EN; (exact fun w hw => rkeys_spec w _ hw); rintro v2 μ2 hle2 ⟨A2, rfl, hs2⟩) | ((with_reducible apply F1 31); exact rfl; exact EN; first | (exact fun w μc hw hse => by have := place_spec u kindL A1 14 14 (by decide) w μc hw (hs1.mono hse.le); rw [hkd] at this; exact this) | (exact fun w μc hw hse => by have := place_spec k keyL A2 3 3 (by decide) w μc hw (hs2.mono hse.le); rw [hky] at this; exact this)) | ((with_reducible apply F1 32); exact rfl; exact EN; (exact fun w μc hw hse => hns w μc hw)) | ((with_reducible apply F1 35); exact rfl; exact EN; (exact fun w μc hw hse => hqs w μc hw)) | refine KI ?_ | refine NB fun b => ?_ | ((refine KB ?_ ?_ <;> intro hp)) | refine KG ?_ | fail)
        all_goals first | (exfalso; first | omega | contradiction | (exact absurd ‹_› ‹¬ _›)) | skip
        refine gc_draw 10 _ (by kernel_rfl) rfl (List.Sublist.cons_cons _ (List.Sublist.cons _ (List.Sublist.cons_cons _ (List.Sublist.cons _ (List.Sublist.cons _ (List.Sublist.cons _ (List.Sublist.cons _ (List.nil_sublist _)))))))) ?_
        all_goals refine DD 0 ?_
        all_goals refine DD 1 ?_
        all_goals refine DD 2 ?_
        all_goals (first | (refine D3 3 ?_; refine D5 ?_; (first | ((with_reducible apply F1 33); exact rfl; exact EN; (exact fun w μc hw hse => hov w μc hw)) | ((with_reducible apply F1 57); exact rfl; exact EN; (exact fun w μc hw hse => hmay w μc hw))); refine D9 ?_))
        all_goals refine DD 4 ?_
        all_goals (try (refine D7 5 ?_; (repeat' (first | refine KO ?_ | (refine KB ?_ ?_ <;> intro hp)))))
        all_goals refine DD 5 ?_
        all_goals (first | (refine D3 6 ?_; refine D5 ?_; (first | ((with_reducible apply F1 33); exact rfl; exact EN; (exact fun w μc hw hse => hov w μc hw)) | ((with_reducible apply F1 57); exact rfl; exact EN; (exact fun w μc hw hse => hmay w μc hw))); refine D9 ?_) | refine D3 6 (D6 ?_))
        all_goals refine DD 7 ?_
        all_goals (first | (refine D3 8 ?_; refine D5 ?_; refine Y0 ?_; refine D9 ?_))
        all_goals refine DD 9 ?_
        all_goals refine D8 ?_
        repeat' (first | refine KK ?_ | refine NB fun b => ?_ | ((refine KB ?_ ?_ <;> intro hp)) | refine KG ?_ | fail)
        all_goals first | (exfalso; first | omega | contradiction | (exact absurd ‹_› ‹¬ _›)) | skip
        exact ret_m2 rfl (rv_agg (vs := [.string (ofB [101, 118, 101, 110, 116]), .int .i64 0, .int .i64 0, .string ⟨#[]⟩, .int .i64 kd, .int .i64 (KeyP.mk 0 n ⟨#[]⟩).kind, .int .i64 (KeyP.mk 0 n ⟨#[]⟩).n, .string (KeyP.mk 0 n ⟨#[]⟩).s, .string (ofB s)]) 5 rfl rfl rfl rfl rfl (by repeat first | exact lc_nil | refine lc_cons rfl ?_)) (rv_tmp rfl) (fun μ' _ _ => ⟨lnOf (.event ⟨kd, (KeyP.mk 0 n ⟨#[]⟩), ofB s⟩), false, rfl, by rw [hev]⟩)
      rw [decide_eq_true hend] at hov
      rw [hcn.2 hend] at hev0
      (try dsimp only at hev0)
      cases hkk : keyR (KeyP.mk 0 n ⟨#[]⟩) with
      | false =>
        rw [hkk] at hmay hev0
        have hev : (eventR keyR (toCu l i)).map LineR.event = none := by rw [hev0]; rfl
        repeat' (first | refine KO ?_ | ((with_reducible apply F1 29); exact rfl; exact EN; first | (exact fun w μc hw hse => hwd1 w μc hw) | (exact fun w μc hw hse => hwd2 w μc hw)) | ((with_reducible apply F2 55); exact rfl; exact EN; (exact fun w hw => rkinds_spec w _ hw); rintro v1 μ1 hle1 ⟨A1, rfl, hs1⟩) | ((with_reducible apply F2 56); exact rfl; exact EN; (exact fun w hw => rkeys_spec w _ hw); rintro v2 μ2 hle2 ⟨A2, rfl, hs2⟩) | ((with_reducible apply F1 31); exact rfl; exact EN; first | (exact fun w μc hw hse => by have := place_spec u kindL A1 14 14 (by decide) w μc hw (hs1.mono hse.le); rw [hkd] at this; exact this) | (exact fun w μc hw hse => by have := place_spec k keyL A2 3 3 (by decide) w μc hw (hs2.mono hse.le); rw [hky] at this; exact this)) | ((with_reducible apply F1 32); exact rfl; exact EN; (exact fun w μc hw hse => hns w μc hw)) | ((with_reducible apply F1 35); exact rfl; exact EN; (exact fun w μc hw hse => hqs w μc hw)) | refine KI ?_ | refine NB fun b => ?_ | ((refine KB ?_ ?_ <;> intro hp)) | refine KG ?_ | fail)
        all_goals first | (exfalso; first | omega | contradiction | (exact absurd ‹_› ‹¬ _›)) | skip
        refine gc_draw 10 _ (by kernel_rfl) rfl (List.Sublist.cons_cons _ (List.Sublist.cons _ (List.Sublist.cons_cons _ (List.Sublist.cons _ (List.Sublist.cons _ (List.Sublist.cons _ (List.Sublist.cons _ (List.nil_sublist _)))))))) ?_
        all_goals refine DD 0 ?_
        all_goals refine DD 1 ?_
        all_goals refine DD 2 ?_
        all_goals (first | (refine D3 3 ?_; refine D5 ?_; (first | ((with_reducible apply F1 33); exact rfl; exact EN; (exact fun w μc hw hse => hov w μc hw)) | ((with_reducible apply F1 57); exact rfl; exact EN; (exact fun w μc hw hse => hmay w μc hw))); refine D9 ?_))
        all_goals refine DD 4 ?_
        all_goals (try (refine D7 5 ?_; (repeat' (first | refine KO ?_ | (refine KB ?_ ?_ <;> intro hp)))))
        all_goals refine DD 5 ?_
        all_goals (first | (refine D3 6 ?_; refine D5 ?_; (first | ((with_reducible apply F1 33); exact rfl; exact EN; (exact fun w μc hw hse => hov w μc hw)) | ((with_reducible apply F1 57); exact rfl; exact EN; (exact fun w μc hw hse => hmay w μc hw))); refine D9 ?_) | refine D3 6 (D6 ?_))
        all_goals refine DD 7 ?_
        all_goals (first | (refine D3 8 ?_; refine D5 ?_; refine Y0 ?_; refine D9 ?_))
        all_goals refine DD 9 ?_
        all_goals refine D8 ?_
        repeat' (first | refine KK ?_ | refine NB fun b => ?_ | ((refine KB ?_ ?_ <;> intro hp)) | refine KG ?_ | fail)
        all_goals first | (exfalso; first | omega | contradiction | (exact absurd ‹_› ‹¬ _›)) | skip
        exact ret_m2 rfl (rv_agg (vs := [.string (ofB [101, 118, 101, 110, 116]), .int .i64 0, .int .i64 0, .string ⟨#[]⟩, .int .i64 kd, .int .i64 (KeyP.mk 0 n ⟨#[]⟩).kind, .int .i64 (KeyP.mk 0 n ⟨#[]⟩).n, .string (KeyP.mk 0 n ⟨#[]⟩).s, .string (ofB s)]) 5 rfl rfl rfl rfl rfl (by repeat first | exact lc_nil | refine lc_cons rfl ?_)) (rv_tmp rfl) (fun μ' _ _ => ⟨lnOf (.event ⟨kd, (KeyP.mk 0 n ⟨#[]⟩), ofB s⟩), false, rfl, by rw [hev]⟩)
      | true =>
        rw [hkk] at hmay hev0
        have hev : (eventR keyR (toCu l i)).map LineR.event = some (.event ⟨kd, (KeyP.mk 0 n ⟨#[]⟩), ofB s⟩) := by rw [hev0]; rfl
        repeat' (first | refine KO ?_ | ((with_reducible apply F1 29); exact rfl; exact EN; first | (exact fun w μc hw hse => hwd1 w μc hw) | (exact fun w μc hw hse => hwd2 w μc hw)) | ((with_reducible apply F2 55); exact rfl; exact EN; (exact fun w hw => rkinds_spec w _ hw); rintro v1 μ1 hle1 ⟨A1, rfl, hs1⟩) | ((with_reducible apply F2 56); exact rfl; exact EN; (exact fun w hw => rkeys_spec w _ hw); rintro v2 μ2 hle2 ⟨A2, rfl, hs2⟩) | ((with_reducible apply F1 31); exact rfl; exact EN; first | (exact fun w μc hw hse => by have := place_spec u kindL A1 14 14 (by decide) w μc hw (hs1.mono hse.le); rw [hkd] at this; exact this) | (exact fun w μc hw hse => by have := place_spec k keyL A2 3 3 (by decide) w μc hw (hs2.mono hse.le); rw [hky] at this; exact this)) | ((with_reducible apply F1 32); exact rfl; exact EN; (exact fun w μc hw hse => hns w μc hw)) | ((with_reducible apply F1 35); exact rfl; exact EN; (exact fun w μc hw hse => hqs w μc hw)) | refine KI ?_ | refine NB fun b => ?_ | ((refine KB ?_ ?_ <;> intro hp)) | refine KG ?_ | fail)
        all_goals first | (exfalso; first | omega | contradiction | (exact absurd ‹_› ‹¬ _›)) | skip
        refine gc_draw 10 _ (by kernel_rfl) rfl (List.Sublist.cons_cons _ (List.Sublist.cons _ (List.Sublist.cons_cons _ (List.Sublist.cons _ (List.Sublist.cons _ (List.Sublist.cons _ (List.Sublist.cons _ (List.nil_sublist _)))))))) ?_
        all_goals refine DD 0 ?_
        all_goals refine DD 1 ?_
        all_goals refine DD 2 ?_
        all_goals (first | (refine D3 3 ?_; refine D5 ?_; (first | ((with_reducible apply F1 33); exact rfl; exact EN; (exact fun w μc hw hse => hov w μc hw)) | ((with_reducible apply F1 57); exact rfl; exact EN; (exact fun w μc hw hse => hmay w μc hw))); refine D9 ?_))
        all_goals refine DD 4 ?_
        all_goals (try (refine D7 5 ?_; (repeat' (first | refine KO ?_ | (refine KB ?_ ?_ <;> intro hp)))))
        all_goals refine DD 5 ?_
        all_goals (first | (refine D3 6 ?_; refine D5 ?_; (first | ((with_reducible apply F1 33); exact rfl; exact EN; (exact fun w μc hw hse => hov w μc hw)) | ((with_reducible apply F1 57); exact rfl; exact EN; (exact fun w μc hw hse => hmay w μc hw))); refine D9 ?_) | refine D3 6 (D6 ?_))
        all_goals refine DD 7 ?_
        all_goals (first | (refine D3 8 ?_; refine D5 ?_; refine Y0 ?_; refine D9 ?_))
        all_goals refine DD 9 ?_
        all_goals refine D8 ?_
        repeat' (first | refine KK ?_ | refine NB fun b => ?_ | ((refine KB ?_ ?_ <;> intro hp)) | refine KG ?_ | fail)
        all_goals first | (exfalso; first | omega | contradiction | (exact absurd ‹_› ‹¬ _›)) | skip
        exact ret_m2 rfl (rv_agg (vs := [.string (ofB [101, 118, 101, 110, 116]), .int .i64 0, .int .i64 0, .string ⟨#[]⟩, .int .i64 kd, .int .i64 (KeyP.mk 0 n ⟨#[]⟩).kind, .int .i64 (KeyP.mk 0 n ⟨#[]⟩).n, .string (KeyP.mk 0 n ⟨#[]⟩).s, .string (ofB s)]) 5 rfl rfl rfl rfl rfl (by repeat first | exact lc_nil | refine lc_cons rfl ?_)) (rv_tmp rfl) (fun μ' _ _ => ⟨lnOf (.event ⟨kd, (KeyP.mk 0 n ⟨#[]⟩), ofB s⟩), true, rfl, by rw [hev]; exact ⟨rfl, rfl⟩⟩)
    rw [if_neg hk0] at hkyf hev0
    by_cases hk1 : k = [116, 101, 120, 116]
    · rw [if_pos hk1] at hkyf hev0
      subst hkyf
      rw [toCu_quo l i2 hi2] at hev0
      have hns := fun (w : World) (μ : Mem) (hμ : MOk μ w) => quoted_spec57 l i2 false hl hi2 w μ hμ
      have hi3 := quoC_i (bad := false) hi2
      have htl := quoC_len (l := l) (i := i2)
      generalize (quoC l i2 false).1 = t at hns htl hev0 ⊢
      generalize (quoC l i2 false).2.1 = i3 at hns hi3 hev0 ⊢
      have hin : inB 0 := ⟨Int.le_refl 0, by omega⟩
      cases hb3 : (quoC l i2 false).2.2 with
      | true =>
        rw [hb3] at hns hev0
        rw [if_pos rfl] at hev0
        have hev : (eventR keyR (toCu l i)).map LineR.event = none := by rw [hev0]; rfl
        repeat' (first | refine KO ?_ | ((with_reducible apply F1 29); exact rfl; exact EN; first | (exact fun w μc hw hse => hwd1 w μc hw) | (exact fun w μc hw hse => hwd2 w μc hw)) | ((with_reducible apply F2 55); exact rfl; exact EN; (exact fun w hw => rkinds_spec w _ hw); rintro v1 μ1 hle1 ⟨A1, rfl, hs1⟩) | ((with_reducible apply F2 56); exact rfl; exact EN; (exact fun w hw => rkeys_spec w _ hw); rintro v2 μ2 hle2 ⟨A2, rfl, hs2⟩) | ((with_reducible apply F1 31); exact rfl; exact EN; first | (exact fun w μc hw hse => by have := place_spec u kindL A1 14 14 (by decide) w μc hw (hs1.mono hse.le); rw [hkd] at this; exact this) | (exact fun w μc hw hse => by have := place_spec k keyL A2 3 3 (by decide) w μc hw (hs2.mono hse.le); rw [hky] at this; exact this)) | ((with_reducible apply F1 35); exact rfl; exact EN; (exact fun w μc hw hse => hns w μc hw)) | refine KI ?_ | refine NB fun b => ?_ | ((refine KB ?_ ?_ <;> intro hp)) | refine KG ?_ | fail)
        all_goals first | (exfalso; first | omega | contradiction | (exact absurd ‹_› ‹¬ _›)) | skip
        all_goals exact ret_m2 rfl (rv_agg (vs := [.string ⟨#[]⟩, .int .i64 0, .int .i64 0, .string ⟨#[]⟩, .int .i64 0, .int .i64 0, .int .i64 0, .string ⟨#[]⟩, .string ⟨#[]⟩]) 4 rfl rfl rfl rfl rfl (by repeat first | exact lc_nil | refine lc_cons rfl ?_)) (rv_tmp rfl) (fun μ' _ _ => ⟨zeroLn, false, rfl, by rw [hev]⟩)
      | false =>
      rw [hb3] at hns hev0
      rw [if_neg (by simp)] at hev0
      dsimp only [Option.map] at hev0
      have hks : (ofB t).size ≤ 9223372036854775807 := by rw [ofB_size]; omega
      rw [toCu_quo l i3 hi3] at hev0
      have hqs := fun (w : World) (μ : Mem) (hμ : MOk μ w) => quoted_spec57 l i3 false hl hi3 w μ hμ
      have hi4 := quoC_i (bad := false) hi3
      generalize (quoC l i3 false).1 = s at hqs hev0 ⊢
      generalize (quoC l i3 false).2.1 = i4 at hqs hi4 hev0 ⊢
      have hcn := toCu_none hi4
      have hmay := fun (w : World) (μ : Mem) (hμ : MOk μ w) => rmay_spec ⟨kd, (KeyP.mk 1 0 (ofB t)), ofB s⟩ hks w μ hμ
      rw [decide_eq_true hkr, decide_eq_true hin] at hmay
      simp only [Bool.true_and, Bool.and_true] at hmay
      cases hb4 : (quoC l i3 false).2.2 with
      | true =>
        rw [hb4] at hqs hev0
        rw [if_pos rfl] at hev0
        have hev : (eventR keyR (toCu l i)).map LineR.event = none := by rw [hev0]; rfl
        have hov := fun (w : World) (μ : Mem) (hμ : MOk μ w) => over_spec l i4 true hl (by omega) w μ hμ
        simp only [Bool.not_true, Bool.false_and] at hov
        repeat' (first | refine KO ?_ | ((with_reducible apply F1 29); exact rfl; exact EN; first | (exact fun w μc hw hse => hwd1 w μc hw) | (exact fun w μc hw hse => hwd2 w μc hw)) | ((with_reducible apply F2 55); exact rfl; exact EN; (exact fun w hw => rkinds_spec w _ hw); rintro v1 μ1 hle1 ⟨A1, rfl, hs1⟩) | ((with_reducible apply F2 56); exact rfl; exact EN; (exact fun w hw => rkeys_spec w _ hw); rintro v2 μ2 hle2 ⟨A2, rfl, hs2⟩) | ((with_reducible apply F1 31); exact rfl; exact EN; first | (exact fun w μc hw hse => by have := place_spec u kindL A1 14 14 (by decide) w μc hw (hs1.mono hse.le); rw [hkd] at this; exact this) | (exact fun w μc hw hse => by have := place_spec k keyL A2 3 3 (by decide) w μc hw (hs2.mono hse.le); rw [hky] at this; exact this)) | ((with_reducible apply F1 35); exact rfl; exact EN; first | (exact fun w μc hw hse => hns w μc hw) | (exact fun w μc hw hse => hqs w μc hw)) | refine KI ?_ | refine NB fun b => ?_ | ((refine KB ?_ ?_ <;> intro hp)) | refine KG ?_ | fail)
        all_goals first | (exfalso; first | omega | contradiction | (exact absurd ‹_› ‹¬ _›)) | skip
        refine gc_draw 10 _ (by kernel_rfl) rfl (List.Sublist.cons_cons _ (List.Sublist.cons _ (List.Sublist.cons_cons _ (List.Sublist.cons _ (List.Sublist.cons _ (List.Sublist.cons _ (List.Sublist.cons _ (List.nil_sublist _)))))))) ?_
        all_goals refine DD 0 ?_
        all_goals refine DD 1 ?_
        all_goals refine DD 2 ?_
        all_goals (first | (refine D3 3 ?_; refine D5 ?_; (first | ((with_reducible apply F1 33); exact rfl; exact EN; (exact fun w μc hw hse => hov w μc hw)) | ((with_reducible apply F1 57); exact rfl; exact EN; (exact fun w μc hw hse => hmay w μc hw))); refine D9 ?_))
        all_goals refine DD 4 ?_
        all_goals (try (refine D7 5 ?_; (repeat' (first | refine KO ?_ | (refine KB ?_ ?_ <;> intro hp)))))
        all_goals refine DD 5 ?_
        all_goals (first | (refine D3 6 ?_; refine D5 ?_; (first | ((with_reducible apply F1 33); exact rfl; exact EN; (exact fun w μc hw hse => hov w μc hw)) | ((with_reducible apply F1 57); exact rfl; exact EN; (exact fun w μc hw hse => hmay w μc hw))); refine D9 ?_) | refine D3 6 (D6 ?_))
        all_goals refine DD 7 ?_
        all_goals (first | (refine D3 8 ?_; refine D5 ?_; refine Y0 ?_; refine D9 ?_))
        all_goals refine DD 9 ?_
        all_goals refine D8 ?_
        repeat' (first | refine KK ?_ | refine NB fun b => ?_ | ((refine KB ?_ ?_ <;> intro hp)) | refine KG ?_ | fail)
        all_goals first | (exfalso; first | omega | contradiction | (exact absurd ‹_› ‹¬ _›)) | skip
        exact ret_m2 rfl (rv_agg (vs := [.string (ofB [101, 118, 101, 110, 116]), .int .i64 0, .int .i64 0, .string ⟨#[]⟩, .int .i64 kd, .int .i64 (KeyP.mk 1 0 (ofB t)).kind, .int .i64 (KeyP.mk 1 0 (ofB t)).n, .string (KeyP.mk 1 0 (ofB t)).s, .string (ofB s)]) 5 rfl rfl rfl rfl rfl (by repeat first | exact lc_nil | refine lc_cons rfl ?_)) (rv_tmp rfl) (fun μ' _ _ => ⟨lnOf (.event ⟨kd, (KeyP.mk 1 0 (ofB t)), ofB s⟩), false, rfl, by rw [hev]⟩)
      | false =>
      rw [hb4] at hqs hev0
      rw [if_neg (by simp)] at hev0
      try dsimp only at hev0
      have hov := fun (w : World) (μ : Mem) (hμ : MOk μ w) => over_spec l i4 false hl (by omega) w μ hμ
      simp only [Bool.not_false, Bool.true_and] at hov
      by_cases hend : i4 = l.length + 1
      rotate_left
      · rw [decide_eq_false hend] at hov
        have hev : (eventR keyR (toCu l i)).map LineR.event = none := by
          rw [hev0]
          cases hc : toCu l i4 with
          | none => exact absurd (hcn.1 hc) hend
          | some z => rfl
        repeat' (first | refine KO ?_ | ((with_reducible apply F1 29); exact rfl; exact EN; first | (exact fun w μc hw hse => hwd1 w μc hw) | (exact fun w μc hw hse => hwd2 w μc hw)) | ((with_reducible apply F2 55); exact rfl; exact EN; (exact fun w hw => rkinds_spec w _ hw); rintro v1 μ1 hle1 ⟨A1, rfl, hs1⟩) | ((with_reducible apply F2 56); exact rfl; exact EN; (exact fun w hw => rkeys_spec w _ hw); rintro v2 μ2 hle2 ⟨A2, rfl, hs2⟩) | ((with_reducible apply F1 31); exact rfl; exact EN; first | (exact fun w μc hw hse => by have := place_spec u kindL A1 14 14 (by decide) w μc hw (hs1.mono hse.le); rw [hkd] at this; exact this) | (exact fun w μc hw hse => by have := place_spec k keyL A2 3 3 (by decide) w μc hw (hs2.mono hse.le); rw [hky] at this; exact this)) | ((with_reducible apply F1 35); exact rfl; exact EN; first | (exact fun w μc hw hse => hns w μc hw) | (exact fun w μc hw hse => hqs w μc hw)) | refine KI ?_ | refine NB fun b => ?_ | ((refine KB ?_ ?_ <;> intro hp)) | refine KG ?_ | fail)
        all_goals first | (exfalso; first | omega | contradiction | (exact absurd ‹_› ‹¬ _›)) | skip
        refine gc_draw 10 _ (by kernel_rfl) rfl (List.Sublist.cons_cons _ (List.Sublist.cons _ (List.Sublist.cons_cons _ (List.Sublist.cons _ (List.Sublist.cons _ (List.Sublist.cons _ (List.Sublist.cons _ (List.nil_sublist _)))))))) ?_
        all_goals refine DD 0 ?_
        all_goals refine DD 1 ?_
        all_goals refine DD 2 ?_
        all_goals (first | (refine D3 3 ?_; refine D5 ?_; (first | ((with_reducible apply F1 33); exact rfl; exact EN; (exact fun w μc hw hse => hov w μc hw)) | ((with_reducible apply F1 57); exact rfl; exact EN; (exact fun w μc hw hse => hmay w μc hw))); refine D9 ?_))
        all_goals refine DD 4 ?_
        all_goals (try (refine D7 5 ?_; (repeat' (first | refine KO ?_ | (refine KB ?_ ?_ <;> intro hp)))))
        all_goals refine DD 5 ?_
        all_goals (first | (refine D3 6 ?_; refine D5 ?_; (first | ((with_reducible apply F1 33); exact rfl; exact EN; (exact fun w μc hw hse => hov w μc hw)) | ((with_reducible apply F1 57); exact rfl; exact EN; (exact fun w μc hw hse => hmay w μc hw))); refine D9 ?_) | refine D3 6 (D6 ?_))
        all_goals refine DD 7 ?_
        all_goals (first | (refine D3 8 ?_; refine D5 ?_; refine Y0 ?_; refine D9 ?_))
        all_goals refine DD 9 ?_
        all_goals refine D8 ?_
        repeat' (first | refine KK ?_ | refine NB fun b => ?_ | ((refine KB ?_ ?_ <;> intro hp)) | refine KG ?_ | fail)
        all_goals first | (exfalso; first | omega | contradiction | (exact absurd ‹_› ‹¬ _›)) | skip
        exact ret_m2 rfl (rv_agg (vs := [.string (ofB [101, 118, 101, 110, 116]), .int .i64 0, .int .i64 0, .string ⟨#[]⟩, .int .i64 kd, .int .i64 (KeyP.mk 1 0 (ofB t)).kind, .int .i64 (KeyP.mk 1 0 (ofB t)).n, .string (KeyP.mk 1 0 (ofB t)).s, .string (ofB s)]) 5 rfl rfl rfl rfl rfl (by repeat first | exact lc_nil | refine lc_cons rfl ?_)) (rv_tmp rfl) (fun μ' _ _ => ⟨lnOf (.event ⟨kd, (KeyP.mk 1 0 (ofB t)), ofB s⟩), false, rfl, by rw [hev]⟩)
      rw [decide_eq_true hend] at hov
      rw [hcn.2 hend] at hev0
      (try dsimp only at hev0)
      cases hkk : keyR (KeyP.mk 1 0 (ofB t)) with
      | false =>
        rw [hkk] at hmay hev0
        have hev : (eventR keyR (toCu l i)).map LineR.event = none := by rw [hev0]; rfl
        repeat' (first | refine KO ?_ | ((with_reducible apply F1 29); exact rfl; exact EN; first | (exact fun w μc hw hse => hwd1 w μc hw) | (exact fun w μc hw hse => hwd2 w μc hw)) | ((with_reducible apply F2 55); exact rfl; exact EN; (exact fun w hw => rkinds_spec w _ hw); rintro v1 μ1 hle1 ⟨A1, rfl, hs1⟩) | ((with_reducible apply F2 56); exact rfl; exact EN; (exact fun w hw => rkeys_spec w _ hw); rintro v2 μ2 hle2 ⟨A2, rfl, hs2⟩) | ((with_reducible apply F1 31); exact rfl; exact EN; first | (exact fun w μc hw hse => by have := place_spec u kindL A1 14 14 (by decide) w μc hw (hs1.mono hse.le); rw [hkd] at this; exact this) | (exact fun w μc hw hse => by have := place_spec k keyL A2 3 3 (by decide) w μc hw (hs2.mono hse.le); rw [hky] at this; exact this)) | ((with_reducible apply F1 35); exact rfl; exact EN; first | (exact fun w μc hw hse => hns w μc hw) | (exact fun w μc hw hse => hqs w μc hw)) | refine KI ?_ | refine NB fun b => ?_ | ((refine KB ?_ ?_ <;> intro hp)) | refine KG ?_ | fail)
        all_goals first | (exfalso; first | omega | contradiction | (exact absurd ‹_› ‹¬ _›)) | skip
        refine gc_draw 10 _ (by kernel_rfl) rfl (List.Sublist.cons_cons _ (List.Sublist.cons _ (List.Sublist.cons_cons _ (List.Sublist.cons _ (List.Sublist.cons _ (List.Sublist.cons _ (List.Sublist.cons _ (List.nil_sublist _)))))))) ?_
        all_goals refine DD 0 ?_
        all_goals refine DD 1 ?_
        all_goals refine DD 2 ?_
        all_goals (first | (refine D3 3 ?_; refine D5 ?_; (first | ((with_reducible apply F1 33); exact rfl; exact EN; (exact fun w μc hw hse => hov w μc hw)) | ((with_reducible apply F1 57); exact rfl; exact EN; (exact fun w μc hw hse => hmay w μc hw))); refine D9 ?_))
        all_goals refine DD 4 ?_
        all_goals (try (refine D7 5 ?_; (repeat' (first | refine KO ?_ | (refine KB ?_ ?_ <;> intro hp)))))
        all_goals refine DD 5 ?_
        all_goals (first | (refine D3 6 ?_; refine D5 ?_; (first | ((with_reducible apply F1 33); exact rfl; exact EN; (exact fun w μc hw hse => hov w μc hw)) | ((with_reducible apply F1 57); exact rfl; exact EN; (exact fun w μc hw hse => hmay w μc hw))); refine D9 ?_) | refine D3 6 (D6 ?_))
        all_goals refine DD 7 ?_
        all_goals (first | (refine D3 8 ?_; refine D5 ?_; refine Y0 ?_; refine D9 ?_))
        all_goals refine DD 9 ?_
        all_goals refine D8 ?_
        repeat' (first | refine KK ?_ | refine NB fun b => ?_ | ((refine KB ?_ ?_ <;> intro hp)) | refine KG ?_ | fail)
        all_goals first | (exfalso; first | omega | contradiction | (exact absurd ‹_› ‹¬ _›)) | skip
        exact ret_m2 rfl (rv_agg (vs := [.string (ofB [101, 118, 101, 110, 116]), .int .i64 0, .int .i64 0, .string ⟨#[]⟩, .int .i64 kd, .int .i64 (KeyP.mk 1 0 (ofB t)).kind, .int .i64 (KeyP.mk 1 0 (ofB t)).n, .string (KeyP.mk 1 0 (ofB t)).s, .string (ofB s)]) 5 rfl rfl rfl rfl rfl (by repeat first | exact lc_nil | refine lc_cons rfl ?_)) (rv_tmp rfl) (fun μ' _ _ => ⟨lnOf (.event ⟨kd, (KeyP.mk 1 0 (ofB t)), ofB s⟩), false, rfl, by rw [hev]⟩)
      | true =>
        rw [hkk] at hmay hev0
        have hev : (eventR keyR (toCu l i)).map LineR.event = some (.event ⟨kd, (KeyP.mk 1 0 (ofB t)), ofB s⟩) := by rw [hev0]; rfl
        repeat' (first | refine KO ?_ | ((with_reducible apply F1 29); exact rfl; exact EN; first | (exact fun w μc hw hse => hwd1 w μc hw) | (exact fun w μc hw hse => hwd2 w μc hw)) | ((with_reducible apply F2 55); exact rfl; exact EN; (exact fun w hw => rkinds_spec w _ hw); rintro v1 μ1 hle1 ⟨A1, rfl, hs1⟩) | ((with_reducible apply F2 56); exact rfl; exact EN; (exact fun w hw => rkeys_spec w _ hw); rintro v2 μ2 hle2 ⟨A2, rfl, hs2⟩) | ((with_reducible apply F1 31); exact rfl; exact EN; first | (exact fun w μc hw hse => by have := place_spec u kindL A1 14 14 (by decide) w μc hw (hs1.mono hse.le); rw [hkd] at this; exact this) | (exact fun w μc hw hse => by have := place_spec k keyL A2 3 3 (by decide) w μc hw (hs2.mono hse.le); rw [hky] at this; exact this)) | ((with_reducible apply F1 35); exact rfl; exact EN; first | (exact fun w μc hw hse => hns w μc hw) | (exact fun w μc hw hse => hqs w μc hw)) | refine KI ?_ | refine NB fun b => ?_ | ((refine KB ?_ ?_ <;> intro hp)) | refine KG ?_ | fail)
        all_goals first | (exfalso; first | omega | contradiction | (exact absurd ‹_› ‹¬ _›)) | skip
        refine gc_draw 10 _ (by kernel_rfl) rfl (List.Sublist.cons_cons _ (List.Sublist.cons _ (List.Sublist.cons_cons _ (List.Sublist.cons _ (List.Sublist.cons _ (List.Sublist.cons _ (List.Sublist.cons _ (List.nil_sublist _)))))))) ?_
        all_goals refine DD 0 ?_
        all_goals refine DD 1 ?_
        all_goals refine DD 2 ?_
        all_goals (first | (refine D3 3 ?_; refine D5 ?_; (first | ((with_reducible apply F1 33); exact rfl; exact EN; (exact fun w μc hw hse => hov w μc hw)) | ((with_reducible apply F1 57); exact rfl; exact EN; (exact fun w μc hw hse => hmay w μc hw))); refine D9 ?_))
        all_goals refine DD 4 ?_
        all_goals (try (refine D7 5 ?_; (repeat' (first | refine KO ?_ | (refine KB ?_ ?_ <;> intro hp)))))
        all_goals refine DD 5 ?_
        all_goals (first | (refine D3 6 ?_; refine D5 ?_; (first | ((with_reducible apply F1 33); exact rfl; exact EN; (exact fun w μc hw hse => hov w μc hw)) | ((with_reducible apply F1 57); exact rfl; exact EN; (exact fun w μc hw hse => hmay w μc hw))); refine D9 ?_) | refine D3 6 (D6 ?_))
        all_goals refine DD 7 ?_
        all_goals (first | (refine D3 8 ?_; refine D5 ?_; refine Y0 ?_; refine D9 ?_))
        all_goals refine DD 9 ?_
        all_goals refine D8 ?_
        repeat' (first | refine KK ?_ | refine NB fun b => ?_ | ((refine KB ?_ ?_ <;> intro hp)) | refine KG ?_ | fail)
        all_goals first | (exfalso; first | omega | contradiction | (exact absurd ‹_› ‹¬ _›)) | skip
        exact ret_m2 rfl (rv_agg (vs := [.string (ofB [101, 118, 101, 110, 116]), .int .i64 0, .int .i64 0, .string ⟨#[]⟩, .int .i64 kd, .int .i64 (KeyP.mk 1 0 (ofB t)).kind, .int .i64 (KeyP.mk 1 0 (ofB t)).n, .string (KeyP.mk 1 0 (ofB t)).s, .string (ofB s)]) 5 rfl rfl rfl rfl rfl (by repeat first | exact lc_nil | refine lc_cons rfl ?_)) (rv_tmp rfl) (fun μ' _ _ => ⟨lnOf (.event ⟨kd, (KeyP.mk 1 0 (ofB t)), ofB s⟩), true, rfl, by rw [hev]; exact ⟨rfl, rfl⟩⟩)
    rw [if_neg hk1] at hkyf hev0
    by_cases hk2 : k = [115, 121, 109, 98, 111, 108]
    · rw [if_pos hk2] at hkyf hev0
      subst hkyf
      rw [toCu_num l i2 hi2] at hev0
      have hns := fun (w : World) (μ : Mem) (hμ : MOk μ w) => number_spec l i2 false hl hi2 w μ hμ
      have hi3 := numC_i (bad := false) hi2
      have hin := numC_in (l := l) (i := i2)
      generalize (numC l i2 false).1 = n at hns hin hev0 ⊢
      generalize (numC l i2 false).2.1 = i3 at hns hi3 hev0 ⊢
      cases hb3 : (numC l i2 false).2.2 with
      | true =>
        rw [hb3] at hns hev0
        rw [if_pos rfl] at hev0
        have hev : (eventR keyR (toCu l i)).map LineR.event = none := by rw [hev0]; rfl
        repeat' (first | refine KO ?_ | ((with_reducible apply F1 29); exact rfl; exact EN; first | (exact fun w μc hw hse => hwd1 w μc hw) | (exact fun w μc hw hse => hwd2 w μc hw)) | ((with_reducible apply F2 55); exact rfl; exact EN; (exact fun w hw => rkinds_spec w _ hw); rintro v1 μ1 hle1 ⟨A1, rfl, hs1⟩) | ((with_reducible apply F2 56); exact rfl; exact EN; (exact fun w hw => rkeys_spec w _ hw); rintro v2 μ2 hle2 ⟨A2, rfl, hs2⟩) | ((with_reducible apply F1 31); exact rfl; exact EN; first | (exact fun w μc hw hse => by have := place_spec u kindL A1 14 14 (by decide) w μc hw (hs1.mono hse.le); rw [hkd] at this; exact this) | (exact fun w μc hw hse => by have := place_spec k keyL A2 3 3 (by decide) w μc hw (hs2.mono hse.le); rw [hky] at this; exact this)) | ((with_reducible apply F1 32); exact rfl; exact EN; (exact fun w μc hw hse => hns w μc hw)) | refine KI ?_ | refine NB fun b => ?_ | ((refine KB ?_ ?_ <;> intro hp)) | refine KG ?_ | fail)
        all_goals first | (exfalso; first | omega | contradiction | (exact absurd ‹_› ‹¬ _›)) | skip
        all_goals exact ret_m2 rfl (rv_agg (vs := [.string ⟨#[]⟩, .int .i64 0, .int .i64 0, .string ⟨#[]⟩, .int .i64 0, .int .i64 0, .int .i64 0, .string ⟨#[]⟩, .string ⟨#[]⟩]) 4 rfl rfl rfl rfl rfl (by repeat first | exact lc_nil | refine lc_cons rfl ?_)) (rv_tmp rfl) (fun μ' _ _ => ⟨zeroLn, false, rfl, by rw [hev]⟩)
      | false =>
      rw [hb3] at hns hev0
      rw [if_neg (by simp)] at hev0
      dsimp only [Option.map] at hev0
      have hks : (⟨#[]⟩ : ByteArray).size ≤ 9223372036854775807 := by decide
      rw [toCu_quo l i3 hi3] at hev0
      have hqs := fun (w : World) (μ : Mem) (hμ : MOk μ w) => quoted_spec57 l i3 false hl hi3 w μ hμ
      have hi4 := quoC_i (bad := false) hi3
      generalize (quoC l i3 false).1 = s at hqs hev0 ⊢
      generalize (quoC l i3 false).2.1 = i4 at hqs hi4 hev0 ⊢
      have hcn := toCu_none hi4
      have hmay := fun (w : World) (μ : Mem) (hμ : MOk μ w) => rmay_spec ⟨kd, (KeyP.mk 2 n ⟨#[]⟩), ofB s⟩ hks w μ hμ
      rw [decide_eq_true hkr, decide_eq_true hin] at hmay
      simp only [Bool.true_and, Bool.and_true] at hmay
      cases hb4 : (quoC l i3 false).2.2 with
      | true =>
        rw [hb4] at hqs hev0
        rw [if_pos rfl] at hev0
        have hev : (eventR keyR (toCu l i)).map LineR.event = none := by rw [hev0]; rfl
        have hov := fun (w : World) (μ : Mem) (hμ : MOk μ w) => over_spec l i4 true hl (by omega) w μ hμ
        simp only [Bool.not_true, Bool.false_and] at hov
        repeat' (first | refine KO ?_ | ((with_reducible apply F1 29); exact rfl; exact EN; first | (exact fun w μc hw hse => hwd1 w μc hw) | (exact fun w μc hw hse => hwd2 w μc hw)) | ((with_reducible apply F2 55); exact rfl; exact EN; (exact fun w hw => rkinds_spec w _ hw); rintro v1 μ1 hle1 ⟨A1, rfl, hs1⟩) | ((with_reducible apply F2 56); exact rfl; exact EN; (exact fun w hw => rkeys_spec w _ hw); rintro v2 μ2 hle2 ⟨A2, rfl, hs2⟩) | ((with_reducible apply F1 31); exact rfl; exact EN; first | (exact fun w μc hw hse => by have := place_spec u kindL A1 14 14 (by decide) w μc hw (hs1.mono hse.le); rw [hkd] at this; exact this) | (exact fun w μc hw hse => by have := place_spec k keyL A2 3 3 (by decide) w μc hw (hs2.mono hse.le); rw [hky] at this; exact this)) | ((with_reducible apply F1 32); exact rfl; exact EN; (exact fun w μc hw hse => hns w μc hw)) | ((with_reducible apply F1 35); exact rfl; exact EN; (exact fun w μc hw hse => hqs w μc hw)) | refine KI ?_ | refine NB fun b => ?_ | ((refine KB ?_ ?_ <;> intro hp)) | refine KG ?_ | fail)
        all_goals first | (exfalso; first | omega | contradiction | (exact absurd ‹_› ‹¬ _›)) | skip
        refine gc_draw 10 _ (by kernel_rfl) rfl (List.Sublist.cons_cons _ (List.Sublist.cons _ (List.Sublist.cons_cons _ (List.Sublist.cons _ (List.Sublist.cons _ (List.Sublist.cons _ (List.Sublist.cons _ (List.nil_sublist _)))))))) ?_
        all_goals refine DD 0 ?_
        all_goals refine DD 1 ?_
        all_goals refine DD 2 ?_
        all_goals (first | (refine D3 3 ?_; refine D5 ?_; (first | ((with_reducible apply F1 33); exact rfl; exact EN; (exact fun w μc hw hse => hov w μc hw)) | ((with_reducible apply F1 57); exact rfl; exact EN; (exact fun w μc hw hse => hmay w μc hw))); refine D9 ?_))
        all_goals refine DD 4 ?_
        all_goals (try (refine D7 5 ?_; (repeat' (first | refine KO ?_ | (refine KB ?_ ?_ <;> intro hp)))))
        all_goals refine DD 5 ?_
        all_goals (first | (refine D3 6 ?_; refine D5 ?_; (first | ((with_reducible apply F1 33); exact rfl; exact EN; (exact fun w μc hw hse => hov w μc hw)) | ((with_reducible apply F1 57); exact rfl; exact EN; (exact fun w μc hw hse => hmay w μc hw))); refine D9 ?_) | refine D3 6 (D6 ?_))
        all_goals refine DD 7 ?_
        all_goals (first | (refine D3 8 ?_; refine D5 ?_; refine Y0 ?_; refine D9 ?_))
        all_goals refine DD 9 ?_
        all_goals refine D8 ?_
        repeat' (first | refine KK ?_ | refine NB fun b => ?_ | ((refine KB ?_ ?_ <;> intro hp)) | refine KG ?_ | fail)
        all_goals first | (exfalso; first | omega | contradiction | (exact absurd ‹_› ‹¬ _›)) | skip
        exact ret_m2 rfl (rv_agg (vs := [.string (ofB [101, 118, 101, 110, 116]), .int .i64 0, .int .i64 0, .string ⟨#[]⟩, .int .i64 kd, .int .i64 (KeyP.mk 2 n ⟨#[]⟩).kind, .int .i64 (KeyP.mk 2 n ⟨#[]⟩).n, .string (KeyP.mk 2 n ⟨#[]⟩).s, .string (ofB s)]) 5 rfl rfl rfl rfl rfl (by repeat first | exact lc_nil | refine lc_cons rfl ?_)) (rv_tmp rfl) (fun μ' _ _ => ⟨lnOf (.event ⟨kd, (KeyP.mk 2 n ⟨#[]⟩), ofB s⟩), false, rfl, by rw [hev]⟩)
      | false =>
      rw [hb4] at hqs hev0
      rw [if_neg (by simp)] at hev0
      try dsimp only at hev0
      have hov := fun (w : World) (μ : Mem) (hμ : MOk μ w) => over_spec l i4 false hl (by omega) w μ hμ
      simp only [Bool.not_false, Bool.true_and] at hov
      by_cases hend : i4 = l.length + 1
      rotate_left
      · rw [decide_eq_false hend] at hov
        have hev : (eventR keyR (toCu l i)).map LineR.event = none := by
          rw [hev0]
          cases hc : toCu l i4 with
          | none => exact absurd (hcn.1 hc) hend
          | some z => rfl
        repeat' (first | refine KO ?_ | ((with_reducible apply F1 29); exact rfl; exact EN; first | (exact fun w μc hw hse => hwd1 w μc hw) | (exact fun w μc hw hse => hwd2 w μc hw)) | ((with_reducible apply F2 55); exact rfl; exact EN; (exact fun w hw => rkinds_spec w _ hw); rintro v1 μ1 hle1 ⟨A1, rfl, hs1⟩) | ((with_reducible apply F2 56); exact rfl; exact EN; (exact fun w hw => rkeys_spec w _ hw); rintro v2 μ2 hle2 ⟨A2, rfl, hs2⟩) | ((with_reducible apply F1 31); exact rfl; exact EN; first | (exact fun w μc hw hse => by have := place_spec u kindL A1 14 14 (by decide) w μc hw (hs1.mono hse.le); rw [hkd] at this; exact this) | (exact fun w μc hw hse => by have := place_spec k keyL A2 3 3 (by decide) w μc hw (hs2.mono hse.le); rw [hky] at this; exact this)) | ((with_reducible apply F1 32); exact rfl; exact EN; (exact fun w μc hw hse => hns w μc hw)) | ((with_reducible apply F1 35); exact rfl; exact EN; (exact fun w μc hw hse => hqs w μc hw)) | refine KI ?_ | refine NB fun b => ?_ | ((refine KB ?_ ?_ <;> intro hp)) | refine KG ?_ | fail)
        all_goals first | (exfalso; first | omega | contradiction | (exact absurd ‹_› ‹¬ _›)) | skip
        refine gc_draw 10 _ (by kernel_rfl) rfl (List.Sublist.cons_cons _ (List.Sublist.cons _ (List.Sublist.cons_cons _ (List.Sublist.cons _ (List.Sublist.cons _ (List.Sublist.cons _ (List.Sublist.cons _ (List.nil_sublist _)))))))) ?_
        all_goals refine DD 0 ?_
        all_goals refine DD 1 ?_
        all_goals refine DD 2 ?_
        all_goals (first | (refine D3 3 ?_; refine D5 ?_; (first | ((with_reducible apply F1 33); exact rfl; exact EN; (exact fun w μc hw hse => hov w μc hw)) | ((with_reducible apply F1 57); exact rfl; exact EN; (exact fun w μc hw hse => hmay w μc hw))); refine D9 ?_))
        all_goals refine DD 4 ?_
        all_goals (try (refine D7 5 ?_; (repeat' (first | refine KO ?_ | (refine KB ?_ ?_ <;> intro hp)))))
        all_goals refine DD 5 ?_
        all_goals (first | (refine D3 6 ?_; refine D5 ?_; (first | ((with_reducible apply F1 33); exact rfl; exact EN; (exact fun w μc hw hse => hov w μc hw)) | ((with_reducible apply F1 57); exact rfl; exact EN; (exact fun w μc hw hse => hmay w μc hw))); refine D9 ?_) | refine D3 6 (D6 ?_))
        all_goals refine DD 7 ?_
        all_goals (first | (refine D3 8 ?_; refine D5 ?_; refine Y0 ?_; refine D9 ?_))
        all_goals refine DD 9 ?_
        all_goals refine D8 ?_
        repeat' (first | refine KK ?_ | refine NB fun b => ?_ | ((refine KB ?_ ?_ <;> intro hp)) | refine KG ?_ | fail)
        all_goals first | (exfalso; first | omega | contradiction | (exact absurd ‹_› ‹¬ _›)) | skip
        exact ret_m2 rfl (rv_agg (vs := [.string (ofB [101, 118, 101, 110, 116]), .int .i64 0, .int .i64 0, .string ⟨#[]⟩, .int .i64 kd, .int .i64 (KeyP.mk 2 n ⟨#[]⟩).kind, .int .i64 (KeyP.mk 2 n ⟨#[]⟩).n, .string (KeyP.mk 2 n ⟨#[]⟩).s, .string (ofB s)]) 5 rfl rfl rfl rfl rfl (by repeat first | exact lc_nil | refine lc_cons rfl ?_)) (rv_tmp rfl) (fun μ' _ _ => ⟨lnOf (.event ⟨kd, (KeyP.mk 2 n ⟨#[]⟩), ofB s⟩), false, rfl, by rw [hev]⟩)
      rw [decide_eq_true hend] at hov
      rw [hcn.2 hend] at hev0
      (try dsimp only at hev0)
      cases hkk : keyR (KeyP.mk 2 n ⟨#[]⟩) with
      | false =>
        rw [hkk] at hmay hev0
        have hev : (eventR keyR (toCu l i)).map LineR.event = none := by rw [hev0]; rfl
        repeat' (first | refine KO ?_ | ((with_reducible apply F1 29); exact rfl; exact EN; first | (exact fun w μc hw hse => hwd1 w μc hw) | (exact fun w μc hw hse => hwd2 w μc hw)) | ((with_reducible apply F2 55); exact rfl; exact EN; (exact fun w hw => rkinds_spec w _ hw); rintro v1 μ1 hle1 ⟨A1, rfl, hs1⟩) | ((with_reducible apply F2 56); exact rfl; exact EN; (exact fun w hw => rkeys_spec w _ hw); rintro v2 μ2 hle2 ⟨A2, rfl, hs2⟩) | ((with_reducible apply F1 31); exact rfl; exact EN; first | (exact fun w μc hw hse => by have := place_spec u kindL A1 14 14 (by decide) w μc hw (hs1.mono hse.le); rw [hkd] at this; exact this) | (exact fun w μc hw hse => by have := place_spec k keyL A2 3 3 (by decide) w μc hw (hs2.mono hse.le); rw [hky] at this; exact this)) | ((with_reducible apply F1 32); exact rfl; exact EN; (exact fun w μc hw hse => hns w μc hw)) | ((with_reducible apply F1 35); exact rfl; exact EN; (exact fun w μc hw hse => hqs w μc hw)) | refine KI ?_ | refine NB fun b => ?_ | ((refine KB ?_ ?_ <;> intro hp)) | refine KG ?_ | fail)
        all_goals first | (exfalso; first | omega | contradiction | (exact absurd ‹_› ‹¬ _›)) | skip
        refine gc_draw 10 _ (by kernel_rfl) rfl (List.Sublist.cons_cons _ (List.Sublist.cons _ (List.Sublist.cons_cons _ (List.Sublist.cons _ (List.Sublist.cons _ (List.Sublist.cons _ (List.Sublist.cons _ (List.nil_sublist _)))))))) ?_
        all_goals refine DD 0 ?_
        all_goals refine DD 1 ?_
        all_goals refine DD 2 ?_
        all_goals (first | (refine D3 3 ?_; refine D5 ?_; (first | ((with_reducible apply F1 33); exact rfl; exact EN; (exact fun w μc hw hse => hov w μc hw)) | ((with_reducible apply F1 57); exact rfl; exact EN; (exact fun w μc hw hse => hmay w μc hw))); refine D9 ?_))
        all_goals refine DD 4 ?_
        all_goals (try (refine D7 5 ?_; (repeat' (first | refine KO ?_ | (refine KB ?_ ?_ <;> intro hp)))))
        all_goals refine DD 5 ?_
        all_goals (first | (refine D3 6 ?_; refine D5 ?_; (first | ((with_reducible apply F1 33); exact rfl; exact EN; (exact fun w μc hw hse => hov w μc hw)) | ((with_reducible apply F1 57); exact rfl; exact EN; (exact fun w μc hw hse => hmay w μc hw))); refine D9 ?_) | refine D3 6 (D6 ?_))
        all_goals refine DD 7 ?_
        all_goals (first | (refine D3 8 ?_; refine D5 ?_; refine Y0 ?_; refine D9 ?_))
        all_goals refine DD 9 ?_
        all_goals refine D8 ?_
        repeat' (first | refine KK ?_ | refine NB fun b => ?_ | ((refine KB ?_ ?_ <;> intro hp)) | refine KG ?_ | fail)
        all_goals first | (exfalso; first | omega | contradiction | (exact absurd ‹_› ‹¬ _›)) | skip
        exact ret_m2 rfl (rv_agg (vs := [.string (ofB [101, 118, 101, 110, 116]), .int .i64 0, .int .i64 0, .string ⟨#[]⟩, .int .i64 kd, .int .i64 (KeyP.mk 2 n ⟨#[]⟩).kind, .int .i64 (KeyP.mk 2 n ⟨#[]⟩).n, .string (KeyP.mk 2 n ⟨#[]⟩).s, .string (ofB s)]) 5 rfl rfl rfl rfl rfl (by repeat first | exact lc_nil | refine lc_cons rfl ?_)) (rv_tmp rfl) (fun μ' _ _ => ⟨lnOf (.event ⟨kd, (KeyP.mk 2 n ⟨#[]⟩), ofB s⟩), false, rfl, by rw [hev]⟩)
      | true =>
        rw [hkk] at hmay hev0
        have hev : (eventR keyR (toCu l i)).map LineR.event = some (.event ⟨kd, (KeyP.mk 2 n ⟨#[]⟩), ofB s⟩) := by rw [hev0]; rfl
        repeat' (first | refine KO ?_ | ((with_reducible apply F1 29); exact rfl; exact EN; first | (exact fun w μc hw hse => hwd1 w μc hw) | (exact fun w μc hw hse => hwd2 w μc hw)) | ((with_reducible apply F2 55); exact rfl; exact EN; (exact fun w hw => rkinds_spec w _ hw); rintro v1 μ1 hle1 ⟨A1, rfl, hs1⟩) | ((with_reducible apply F2 56); exact rfl; exact EN; (exact fun w hw => rkeys_spec w _ hw); rintro v2 μ2 hle2 ⟨A2, rfl, hs2⟩) | ((with_reducible apply F1 31); exact rfl; exact EN; first | (exact fun w μc hw hse => by have := place_spec u kindL A1 14 14 (by decide) w μc hw (hs1.mono hse.le); rw [hkd] at this; exact this) | (exact fun w μc hw hse => by have := place_spec k keyL A2 3 3 (by decide) w μc hw (hs2.mono hse.le); rw [hky] at this; exact this)) | ((with_reducible apply F1 32); exact rfl; exact EN; (exact fun w μc hw hse => hns w μc hw)) | ((with_reducible apply F1 35); exact rfl; exact EN; (exact fun w μc hw hse => hqs w μc hw)) | refine KI ?_ | refine NB fun b => ?_ | ((refine KB ?_ ?_ <;> intro hp)) | refine KG ?_ | fail)
        all_goals first | (exfalso; first | omega | contradiction | (exact absurd ‹_› ‹¬ _›)) | skip
        refine gc_draw 10 _ (by kernel_rfl) rfl (List.Sublist.cons_cons _ (List.Sublist.cons _ (List.Sublist.cons_cons _ (List.Sublist.cons _ (List.Sublist.cons _ (List.Sublist.cons _ (List.Sublist.cons _ (List.nil_sublist _)))))))) ?_
        all_goals refine DD 0 ?_
        all_goals refine DD 1 ?_
        all_goals refine DD 2 ?_
        all_goals (first | (refine D3 3 ?_; refine D5 ?_; (first | ((with_reducible apply F1 33); exact rfl; exact EN; (exact fun w μc hw hse => hov w μc hw)) | ((with_reducible apply F1 57); exact rfl; exact EN; (exact fun w μc hw hse => hmay w μc hw))); refine D9 ?_))
        all_goals refine DD 4 ?_
        all_goals (try (refine D7 5 ?_; (repeat' (first | refine KO ?_ | (refine KB ?_ ?_ <;> intro hp)))))
        all_goals refine DD 5 ?_
        all_goals (first | (refine D3 6 ?_; refine D5 ?_; (first | ((with_reducible apply F1 33); exact rfl; exact EN; (exact fun w μc hw hse => hov w μc hw)) | ((with_reducible apply F1 57); exact rfl; exact EN; (exact fun w μc hw hse => hmay w μc hw))); refine D9 ?_) | refine D3 6 (D6 ?_))
        all_goals refine DD 7 ?_
        all_goals (first | (refine D3 8 ?_; refine D5 ?_; refine Y0 ?_; refine D9 ?_))
        all_goals refine DD 9 ?_
        all_goals refine D8 ?_
        repeat' (first | refine KK ?_ | refine NB fun b => ?_ | ((refine KB ?_ ?_ <;> intro hp)) | refine KG ?_ | fail)
        all_goals first | (exfalso; first | omega | contradiction | (exact absurd ‹_› ‹¬ _›)) | skip
        exact ret_m2 rfl (rv_agg (vs := [.string (ofB [101, 118, 101, 110, 116]), .int .i64 0, .int .i64 0, .string ⟨#[]⟩, .int .i64 kd, .int .i64 (KeyP.mk 2 n ⟨#[]⟩).kind, .int .i64 (KeyP.mk 2 n ⟨#[]⟩).n, .string (KeyP.mk 2 n ⟨#[]⟩).s, .string (ofB s)]) 5 rfl rfl rfl rfl rfl (by repeat first | exact lc_nil | refine lc_cons rfl ?_)) (rv_tmp rfl) (fun μ' _ _ => ⟨lnOf (.event ⟨kd, (KeyP.mk 2 n ⟨#[]⟩), ofB s⟩), true, rfl, by rw [hev]; exact ⟨rfl, rfl⟩⟩)
    rw [if_neg hk2] at hkyf hev0
    subst hkyf
    have hev : (eventR keyR (toCu l i)).map LineR.event = none := by rw [hev0]; rfl
    repeat' (first | refine KO ?_ | ((with_reducible apply F1 29); exact rfl; exact EN; first | (exact fun w μc hw hse => hwd1 w μc hw) | (exact fun w μc hw hse => hwd2 w μc hw)) | ((with_reducible apply F2 55); exact rfl; exact EN; (exact fun w hw => rkinds_spec w _ hw); rintro v1 μ1 hle1 ⟨A1, rfl, hs1⟩) | ((with_reducible apply F2 56); exact rfl; exact EN; (exact fun w hw => rkeys_spec w _ hw); rintro v2 μ2 hle2 ⟨A2, rfl, hs2⟩) | ((with_reducible apply F1 31); exact rfl; exact EN; first | (exact fun w μc hw hse => by have := place_spec u kindL A1 14 14 (by decide) w μc hw (hs1.mono hse.le); rw [hkd] at this; exact this) | (exact fun w μc hw hse => by have := place_spec k keyL A2 3 3 (by decide) w μc hw (hs2.mono hse.le); rw [hky] at this; exact this)) | refine KI ?_ | refine NB fun b => ?_ | ((refine KB ?_ ?_ <;> intro hp)) | refine KG ?_ | fail)
    all_goals first | (exfalso; first | omega | contradiction | (exact absurd ‹_› ‹¬ _›)) | skip
    all_goals exact ret_m2 rfl (rv_agg (vs := [.string ⟨#[]⟩, .int .i64 0, .int .i64 0, .string ⟨#[]⟩, .int .i64 0, .int .i64 0, .int .i64 0, .string ⟨#[]⟩, .string ⟨#[]⟩]) 3 rfl rfl rfl rfl rfl (by repeat first | exact lc_nil | refine lc_cons rfl ?_)) (rv_tmp rfl) (fun μ' _ _ => ⟨zeroLn, false, rfl, by rw [hev]⟩)
end Go.Proofs.YtmihpkdhfomcgaaGreatDoor
namespace Go.Proofs.YtmihpkdhfomcgaaGreatDoor
open Go.RowKit Go.Vcg Ou
theorem oneR_eq (l : List UInt8) : oneR keyR l = match wordR (toCu l 0) with
  | none => none
  | some (w, c) =>
    if w = [101, 114, 114, 111, 114] then match wordR c with
      | none => none
      | some (x, c1) => match findB errT' x with
        | none => none
        | some k => match numberR c1 with
          | some (n, none) => some (.error k n)
          | _ => none
    else if w = [101, 110, 100, 115] then match wordR c with
      | none => none
      | some (x, c1) => match findB endT x with
        | none => none
        | some k => match quotedR c1 with
          | some (t, none) => some (.ends k t)
          | _ => none
    else if w = [115, 116, 101, 112, 115] then match numberR c with
      | some (n, none) => some (.steps n)
      | _ => none
    else if w = [109, 97, 100, 101] then match numberR c with
      | some (n, none) => some (.made n)
      | _ => none
    else if w = [111, 117, 116] then match quotedR c with
      | some (t, none) => some (.out t)
      | _ => none
    else if w = [101, 118, 101, 110, 116] then (eventR keyR c).map .event
    else none := by
  have : toCu l 0 = some l := by unfold toCu; rw [if_neg (by omega)]; rfl
  rw [this]
  rfl
attribute [local irreducible] G GC GQ GA GAop Calls IntKind.wrap Int.decLt Int.decLe rcount2 wordC numC quoC readL keyR idxF eventR
theorem one_spec57 (l : List UInt8) (hl : l.length ≤ 1000000) (w : World) (μ : Mem) (hμ : MOk μ w) :
    Calls Tryz.prog 11 #[.string (ofB l)] w fun en w' => ∃ v μ', en = .returned v ∧ Grow w w' μ μ' ∧ LnPost (oneR keyR l) v := by
  refine call_intro (args := [.string (ofB l)]) Tryz.func11 rfl Tryz.ntmps11 (by simp) hμ ?_
  have hev0 := oneR_eq l
  rw [toCu_word l 0 (by omega)] at hev0
  have hwd1 := fun (w : World) (μ : Mem) (hμ : MOk μ w) => word_spec l 0 false hl (by omega) w μ hμ
  have hi1 := wordC_i (l := l) (i := 0) (bad := false) (by omega)
  generalize (wordC l 0 false).1 = w1 at hwd1 hev0 ⊢
  generalize (wordC l 0 false).2.1 = i1 at hwd1 hi1 hev0 ⊢
  cases hb1 : (wordC l 0 false).2.2 with
  | true =>
    rw [hb1] at hwd1 hev0
    rw [if_pos rfl] at hev0
    have hev : oneR keyR l = none := hev0
    repeat' (first | refine KO ?_ | ((with_reducible apply F1 29); exact rfl; exact EN; first | (exact fun w μc hw hse => hwd1 w μc hw) | (exact fun w μc hw hse => hwd2 w μc hw)) | ((with_reducible apply F2 30); exact rfl; exact EN; (exact fun w hw => rerrors_spec w _ hw); rintro v1 μ1 hle1 ⟨A1, B1, rfl, hs1, hs2⟩) | ((with_reducible apply F2 34); exact rfl; exact EN; (exact fun w hw => rends_spec w _ hw); rintro v1 μ1 hle1 ⟨A1, rfl, hs1⟩) | ((with_reducible apply F1 31); exact rfl; exact EN; first | (exact fun w μc hw hse => by have := place_spec x1 errL A1 30 30 (by decide) w μc hw (hs1.mono hse.le); rw [hkd] at this; exact this) | (exact fun w μc hw hse => by have := place_spec x1 endL A1 7 7 (by decide) w μc hw (hs1.mono hse.le); rw [hkd] at this; exact this)) | ((with_reducible apply F1 32); exact rfl; exact EN; (exact fun w μc hw hse => hns w μc hw)) | ((with_reducible apply F1 35); exact rfl; exact EN; (exact fun w μc hw hse => hns w μc hw)) | ((with_reducible apply F1 33); exact rfl; exact EN; (exact fun w μc hw hse => hov w μc hw)) | ((with_reducible apply F2 36); exact rfl; exact EN; (exact fun w hw => readEvent_spec l i1 hl hi1 w _ hw); rintro v1 μ1 hle1 ⟨ln, lok, rfl, hln⟩) | refine KI ?_ | refine NB fun b => ?_ | ((refine KB ?_ ?_ <;> intro hp)) | refine KG ?_ | fail)
    all_goals first | (exfalso; first | omega | contradiction | (exact absurd ‹_› ‹¬ _›)) | skip
    all_goals exact ret_m2 rfl (rv_agg (vs := [.string ⟨#[]⟩, .int .i64 0, .int .i64 0, .string ⟨#[]⟩, .int .i64 0, .int .i64 0, .int .i64 0, .string ⟨#[]⟩, .string ⟨#[]⟩]) 1 rfl rfl rfl rfl rfl (by repeat first | exact lc_nil | refine lc_cons rfl ?_)) (rv_tmp rfl) (fun μ' _ _ => ⟨zeroLn, false, rfl, by rw [hev]⟩)
  | false =>
  rw [hb1] at hwd1 hev0
  rw [if_neg (by simp)] at hev0
  dsimp only at hev0
  by_cases hw_error : w1 = [101, 114, 114, 111, 114]
  · have z_error : ofB w1 = ⟨#[101, 114, 114, 111, 114]⟩ := by rw [hw_error]; rfl
    rw [if_pos hw_error] at hev0
    rw [toCu_word l i1 hi1] at hev0
    have hwd2 := fun (w : World) (μ : Mem) (hμ : MOk μ w) => word_spec l i1 false hl (by omega) w μ hμ
    have hi2 := wordC_i (bad := false) hi1
    generalize (wordC l i1 false).1 = x1 at hwd2 hev0 ⊢
    generalize (wordC l i1 false).2.1 = i2 at hwd2 hi2 hev0 ⊢
    obtain ⟨kd, hkd⟩ : ∃ kd, placeB x1 errL 0 = kd := ⟨_, rfl⟩
    cases hb2 : (wordC l i1 false).2.2 with
    | true =>
      rw [hb2] at hwd2 hev0
      rw [if_pos rfl] at hev0
      have hev : oneR keyR l = none := hev0
      repeat' (first | refine KO ?_ | ((with_reducible apply F1 29); exact rfl; exact EN; first | (exact fun w μc hw hse => hwd1 w μc hw) | (exact fun w μc hw hse => hwd2 w μc hw)) | ((with_reducible apply F2 30); exact rfl; exact EN; (exact fun w hw => rerrors_spec w _ hw); rintro v1 μ1 hle1 ⟨A1, B1, rfl, hs1, hs2⟩) | ((with_reducible apply F2 34); exact rfl; exact EN; (exact fun w hw => rends_spec w _ hw); rintro v1 μ1 hle1 ⟨A1, rfl, hs1⟩) | ((with_reducible apply F1 31); exact rfl; exact EN; first | (exact fun w μc hw hse => by have := place_spec x1 errL A1 30 30 (by decide) w μc hw (hs1.mono hse.le); rw [hkd] at this; exact this) | (exact fun w μc hw hse => by have := place_spec x1 endL A1 7 7 (by decide) w μc hw (hs1.mono hse.le); rw [hkd] at this; exact this)) | ((with_reducible apply F1 32); exact rfl; exact EN; (exact fun w μc hw hse => hns w μc hw)) | ((with_reducible apply F1 35); exact rfl; exact EN; (exact fun w μc hw hse => hns w μc hw)) | ((with_reducible apply F1 33); exact rfl; exact EN; (exact fun w μc hw hse => hov w μc hw)) | ((with_reducible apply F2 36); exact rfl; exact EN; (exact fun w hw => readEvent_spec l i1 hl hi1 w _ hw); rintro v1 μ1 hle1 ⟨ln, lok, rfl, hln⟩) | refine KI ?_ | refine NB fun b => ?_ | ((refine KB ?_ ?_ <;> intro hp)) | refine KG ?_ | fail)
      all_goals first | (exfalso; first | omega | contradiction | (exact absurd ‹_› ‹¬ _›)) | skip
      all_goals exact ret_m2 rfl (rv_agg (vs := [.string ⟨#[]⟩, .int .i64 0, .int .i64 0, .string ⟨#[]⟩, .int .i64 0, .int .i64 0, .int .i64 0, .string ⟨#[]⟩, .string ⟨#[]⟩]) 2 rfl rfl rfl rfl rfl (by repeat first | exact lc_nil | refine lc_cons rfl ?_)) (rv_tmp rfl) (fun μ' _ _ => ⟨zeroLn, false, rfl, by rw [hev]⟩)
    | false =>
    rw [hb2] at hwd2 hev0
    rw [if_neg (by simp)] at hev0
    dsimp only at hev0
    have hpe := place_err x1
    rw [hkd] at hpe
    cases hf : findB errT' x1 with
    | none =>
      rw [hf] at hpe hev0
      dsimp only at hpe
      have hev : oneR keyR l = none := hev0
      repeat' (first | refine KO ?_ | ((with_reducible apply F1 29); exact rfl; exact EN; first | (exact fun w μc hw hse => hwd1 w μc hw) | (exact fun w μc hw hse => hwd2 w μc hw)) | ((with_reducible apply F2 30); exact rfl; exact EN; (exact fun w hw => rerrors_spec w _ hw); rintro v1 μ1 hle1 ⟨A1, B1, rfl, hs1, hs2⟩) | ((with_reducible apply F2 34); exact rfl; exact EN; (exact fun w hw => rends_spec w _ hw); rintro v1 μ1 hle1 ⟨A1, rfl, hs1⟩) | ((with_reducible apply F1 31); exact rfl; exact EN; first | (exact fun w μc hw hse => by have := place_spec x1 errL A1 30 30 (by decide) w μc hw (hs1.mono hse.le); rw [hkd] at this; exact this) | (exact fun w μc hw hse => by have := place_spec x1 endL A1 7 7 (by decide) w μc hw (hs1.mono hse.le); rw [hkd] at this; exact this)) | ((with_reducible apply F1 32); exact rfl; exact EN; (exact fun w μc hw hse => hns w μc hw)) | ((with_reducible apply F1 35); exact rfl; exact EN; (exact fun w μc hw hse => hns w μc hw)) | ((with_reducible apply F1 33); exact rfl; exact EN; (exact fun w μc hw hse => hov w μc hw)) | ((with_reducible apply F2 36); exact rfl; exact EN; (exact fun w hw => readEvent_spec l i1 hl hi1 w _ hw); rintro v1 μ1 hle1 ⟨ln, lok, rfl, hln⟩) | refine KI ?_ | refine NB fun b => ?_ | ((refine KB ?_ ?_ <;> intro hp)) | refine KG ?_ | fail)
      all_goals first | (exfalso; first | omega | contradiction | (exact absurd ‹_› ‹¬ _›)) | skip
      all_goals exact ret_m2 rfl (rv_agg (vs := [.string ⟨#[]⟩, .int .i64 0, .int .i64 0, .string ⟨#[]⟩, .int .i64 0, .int .i64 0, .int .i64 0, .string ⟨#[]⟩, .string ⟨#[]⟩]) 2 rfl rfl rfl rfl rfl (by repeat first | exact lc_nil | refine lc_cons rfl ?_)) (rv_tmp rfl) (fun μ' _ _ => ⟨zeroLn, false, rfl, by rw [hev]⟩)
    | some e =>
    rw [hf] at hpe hev0
    dsimp only at hpe hev0
    obtain ⟨kn, rfl, hk1, hk30, hke⟩ := hpe
    rw [toCu_num l i2 hi2] at hev0
    have hns := fun (w : World) (μ : Mem) (hμ : MOk μ w) => number_spec l i2 false hl hi2 w μ hμ
    have hi3 := numC_i (bad := false) hi2
    generalize (numC l i2 false).1 = n at hns hev0 ⊢
    generalize (numC l i2 false).2.1 = i3 at hns hi3 hev0 ⊢
    have hcn := toCu_none hi3
    cases hb3 : (numC l i2 false).2.2 with
    | true =>
      rw [hb3] at hns hev0
      rw [if_pos rfl] at hev0
      have hev : oneR keyR l = none := hev0
      have hov := fun (w : World) (μ : Mem) (hμ : MOk μ w) => over_spec l i3 true hl (by omega) w μ hμ
      simp only [Bool.not_true, Bool.false_and] at hov
      repeat' (first | refine KO ?_ | ((with_reducible apply F1 29); exact rfl; exact EN; first | (exact fun w μc hw hse => hwd1 w μc hw) | (exact fun w μc hw hse => hwd2 w μc hw)) | ((with_reducible apply F2 30); exact rfl; exact EN; (exact fun w hw => rerrors_spec w _ hw); rintro v1 μ1 hle1 ⟨A1, B1, rfl, hs1, hs2⟩; obtain ⟨ad, xe, rfl, hxe, hme⟩ := hs2.get hk30) | ((with_reducible apply F2 34); exact rfl; exact EN; (exact fun w hw => rends_spec w _ hw); rintro v1 μ1 hle1 ⟨A1, rfl, hs1⟩) | ((with_reducible apply F1 31); exact rfl; exact EN; first | (exact fun w μc hw hse => by have := place_spec x1 errL A1 30 30 (by decide) w μc hw (hs1.mono hse.le); rw [hkd] at this; exact this) | (exact fun w μc hw hse => by have := place_spec x1 endL A1 7 7 (by decide) w μc hw (hs1.mono hse.le); rw [hkd] at this; exact this)) | ((with_reducible apply F1 32); exact rfl; exact EN; (exact fun w μc hw hse => hns w μc hw)) | ((with_reducible apply F1 35); exact rfl; exact EN; (exact fun w μc hw hse => hns w μc hw)) | ((with_reducible apply F1 33); exact rfl; exact EN; (exact fun w μc hw hse => hov w μc hw)) | ((with_reducible apply F2 36); exact rfl; exact EN; (exact fun w hw => readEvent_spec l i1 hl hi1 w _ hw); rintro v1 μ1 hle1 ⟨ln, lok, rfl, hln⟩) | refine KI ?_ | refine NB fun b => ?_ | ((refine KB ?_ ?_ <;> intro hp)) | refine KG ?_ | fail)
      all_goals first | (exfalso; first | omega | contradiction | (exact absurd ‹_› ‹¬ _›)) | skip
      all_goals (obtain rfl : e = xe := by rw [← hke, List.getD_eq_getElem?_getD, hxe]; rfl)
      refine gc_draw 11 _ (by kernel_rfl) rfl (List.Sublist.cons_cons _ (List.Sublist.cons _ (List.Sublist.cons _ (List.Sublist.cons _ (List.nil_sublist _))))) ?_
      all_goals (first | refine D1 0 ?_ | (refine DV (k := 0) (b := by first | exact U1 kn | exact U3 (hme.at 0 rfl)) (c := ?_)) | (refine D3 0 (DW (b := by first | exact U1 kn | exact U3 (hme.at 0 rfl)) (c := ?_))) | refine DD 0 ?_ | fail)
      all_goals (first | refine D1 1 ?_ | (refine DV (k := 1) (b := by first | exact U1 kn | exact U3 (hme.at 0 rfl)) (c := ?_)) | (refine D3 1 (DW (b := by first | exact U1 kn | exact U3 (hme.at 0 rfl)) (c := ?_))) | refine DD 1 ?_ | fail)
      all_goals (first | refine D1 2 ?_ | (refine DV (k := 2) (b := by first | exact U1 kn | exact U3 (hme.at 0 rfl)) (c := ?_)) | (refine D3 2 (DW (b := by first | exact U1 kn | exact U3 (hme.at 0 rfl)) (c := ?_))) | refine DD 2 ?_ | fail)
      all_goals (first | refine D1 3 ?_ | (refine DV (k := 3) (b := by first | exact U1 kn | exact U3 (hme.at 0 rfl)) (c := ?_)) | (refine D3 3 (DW (b := by first | exact U1 kn | exact U3 (hme.at 0 rfl)) (c := ?_))) | refine DD 3 ?_ | fail)
      all_goals (first | refine D1 4 ?_ | (refine DV (k := 4) (b := by first | exact U1 kn | exact U3 (hme.at 0 rfl)) (c := ?_)) | (refine D3 4 (DW (b := by first | exact U1 kn | exact U3 (hme.at 0 rfl)) (c := ?_))) | refine DD 4 ?_ | fail)
      all_goals (first | refine D1 5 ?_ | (refine DV (k := 5) (b := by first | exact U1 kn | exact U3 (hme.at 0 rfl)) (c := ?_)) | (refine D3 5 (DW (b := by first | exact U1 kn | exact U3 (hme.at 0 rfl)) (c := ?_))) | refine DD 5 ?_ | fail)
      all_goals (first | refine D1 6 ?_ | (refine DV (k := 6) (b := by first | exact U1 kn | exact U3 (hme.at 0 rfl)) (c := ?_)) | (refine D3 6 (DW (b := by first | exact U1 kn | exact U3 (hme.at 0 rfl)) (c := ?_))) | refine DD 6 ?_ | fail)
      all_goals (first | refine D1 7 ?_ | (refine DV (k := 7) (b := by first | exact U1 kn | exact U3 (hme.at 0 rfl)) (c := ?_)) | (refine D3 7 (DW (b := by first | exact U1 kn | exact U3 (hme.at 0 rfl)) (c := ?_))) | refine DD 7 ?_ | fail)
      all_goals (first | (refine D3 8 ?_; refine D5 ?_; (with_reducible apply F1 33); exact rfl; exact EN; (exact fun w μc hw hse => hov w μc hw); refine D9 ?_))
      all_goals (first | (refine D3 9 ?_; refine D5 ?_; refine Y0 ?_; refine D9 ?_))
      all_goals (first | refine D1 10 ?_ | (refine DV (k := 10) (b := by first | exact U1 kn | exact U3 (hme.at 0 rfl)) (c := ?_)) | (refine D3 10 (DW (b := by first | exact U1 kn | exact U3 (hme.at 0 rfl)) (c := ?_))) | refine DD 10 ?_ | fail)
      all_goals refine D8 ?_
      repeat' (first | refine KK ?_ | refine NB fun b => ?_ | ((refine KB ?_ ?_ <;> intro hp)) | refine KG ?_ | fail)
      all_goals first | (exfalso; first | omega | contradiction | (exact absurd ‹_› ‹¬ _›)) | skip
      all_goals (subst hw_error; exact ret_m2 rfl (rv_agg (vs := [.string (ofB [101, 114, 114, 111, 114]), .int .i64 e, .int .i64 n, .string ⟨#[]⟩, .int .i64 0, .int .i64 0, .int .i64 0, .string ⟨#[]⟩, .string ⟨#[]⟩]) 3 rfl rfl rfl rfl rfl (by repeat first | exact lc_nil | refine lc_cons rfl ?_)) (rv_tmp rfl) (fun μ' _ _ => ⟨lnOf (.error e n), false, rfl, by rw [hev]⟩))
    | false =>
    rw [hb3] at hns hev0
    rw [if_neg (by simp)] at hev0
    try dsimp only at hev0
    have hov := fun (w : World) (μ : Mem) (hμ : MOk μ w) => over_spec l i3 false hl (by omega) w μ hμ
    simp only [Bool.not_false, Bool.true_and] at hov
    by_cases hend : i3 = l.length + 1
    rotate_left
    · rw [decide_eq_false hend] at hov
      have hev : oneR keyR l = none := by
        rw [hev0]
        cases hc : toCu l i3 with
        | none => exact absurd (hcn.1 hc) hend
        | some z => rfl
      repeat' (first | refine KO ?_ | ((with_reducible apply F1 29); exact rfl; exact EN; first | (exact fun w μc hw hse => hwd1 w μc hw) | (exact fun w μc hw hse => hwd2 w μc hw)) | ((with_reducible apply F2 30); exact rfl; exact EN; (exact fun w hw => rerrors_spec w _ hw); rintro v1 μ1 hle1 ⟨A1, B1, rfl, hs1, hs2⟩; obtain ⟨ad, xe, rfl, hxe, hme⟩ := hs2.get hk30) | ((with_reducible apply F2 34); exact rfl; exact EN; (exact fun w hw => rends_spec w _ hw); rintro v1 μ1 hle1 ⟨A1, rfl, hs1⟩) | ((with_reducible apply F1 31); exact rfl; exact EN; first | (exact fun w μc hw hse => by have := place_spec x1 errL A1 30 30 (by decide) w μc hw (hs1.mono hse.le); rw [hkd] at this; exact this) | (exact fun w μc hw hse => by have := place_spec x1 endL A1 7 7 (by decide) w μc hw (hs1.mono hse.le); rw [hkd] at this; exact this)) | ((with_reducible apply F1 32); exact rfl; exact EN; (exact fun w μc hw hse => hns w μc hw)) | ((with_reducible apply F1 35); exact rfl; exact EN; (exact fun w μc hw hse => hns w μc hw)) | ((with_reducible apply F1 33); exact rfl; exact EN; (exact fun w μc hw hse => hov w μc hw)) | ((with_reducible apply F2 36); exact rfl; exact EN; (exact fun w hw => readEvent_spec l i1 hl hi1 w _ hw); rintro v1 μ1 hle1 ⟨ln, lok, rfl, hln⟩) | refine KI ?_ | refine NB fun b => ?_ | ((refine KB ?_ ?_ <;> intro hp)) | refine KG ?_ | fail)
      all_goals first | (exfalso; first | omega | contradiction | (exact absurd ‹_› ‹¬ _›)) | skip
      all_goals (obtain rfl : e = xe := by rw [← hke, List.getD_eq_getElem?_getD, hxe]; rfl)
      refine gc_draw 11 _ (by kernel_rfl) rfl (List.Sublist.cons_cons _ (List.Sublist.cons _ (List.Sublist.cons _ (List.Sublist.cons _ (List.nil_sublist _))))) ?_
      all_goals (first | refine D1 0 ?_ | (refine DV (k := 0) (b := by first | exact U1 kn | exact U3 (hme.at 0 rfl)) (c := ?_)) | (refine D3 0 (DW (b := by first | exact U1 kn | exact U3 (hme.at 0 rfl)) (c := ?_))) | refine DD 0 ?_ | fail)
      all_goals (first | refine D1 1 ?_ | (refine DV (k := 1) (b := by first | exact U1 kn | exact U3 (hme.at 0 rfl)) (c := ?_)) | (refine D3 1 (DW (b := by first | exact U1 kn | exact U3 (hme.at 0 rfl)) (c := ?_))) | refine DD 1 ?_ | fail)
      all_goals (first | refine D1 2 ?_ | (refine DV (k := 2) (b := by first | exact U1 kn | exact U3 (hme.at 0 rfl)) (c := ?_)) | (refine D3 2 (DW (b := by first | exact U1 kn | exact U3 (hme.at 0 rfl)) (c := ?_))) | refine DD 2 ?_ | fail)
      all_goals (first | refine D1 3 ?_ | (refine DV (k := 3) (b := by first | exact U1 kn | exact U3 (hme.at 0 rfl)) (c := ?_)) | (refine D3 3 (DW (b := by first | exact U1 kn | exact U3 (hme.at 0 rfl)) (c := ?_))) | refine DD 3 ?_ | fail)
      all_goals (first | refine D1 4 ?_ | (refine DV (k := 4) (b := by first | exact U1 kn | exact U3 (hme.at 0 rfl)) (c := ?_)) | (refine D3 4 (DW (b := by first | exact U1 kn | exact U3 (hme.at 0 rfl)) (c := ?_))) | refine DD 4 ?_ | fail)
      all_goals (first | refine D1 5 ?_ | (refine DV (k := 5) (b := by first | exact U1 kn | exact U3 (hme.at 0 rfl)) (c := ?_)) | (refine D3 5 (DW (b := by first | exact U1 kn | exact U3 (hme.at 0 rfl)) (c := ?_))) | refine DD 5 ?_ | fail)
      all_goals (first | refine D1 6 ?_ | (refine DV (k := 6) (b := by first | exact U1 kn | exact U3 (hme.at 0 rfl)) (c := ?_)) | (refine D3 6 (DW (b := by first | exact U1 kn | exact U3 (hme.at 0 rfl)) (c := ?_))) | refine DD 6 ?_ | fail)
      all_goals (first | refine D1 7 ?_ | (refine DV (k := 7) (b := by first | exact U1 kn | exact U3 (hme.at 0 rfl)) (c := ?_)) | (refine D3 7 (DW (b := by first | exact U1 kn | exact U3 (hme.at 0 rfl)) (c := ?_))) | refine DD 7 ?_ | fail)
      all_goals (first | (refine D3 8 ?_; refine D5 ?_; (with_reducible apply F1 33); exact rfl; exact EN; (exact fun w μc hw hse => hov w μc hw); refine D9 ?_))
      all_goals (first | (refine D3 9 ?_; refine D5 ?_; refine Y0 ?_; refine D9 ?_))
      all_goals (first | refine D1 10 ?_ | (refine DV (k := 10) (b := by first | exact U1 kn | exact U3 (hme.at 0 rfl)) (c := ?_)) | (refine D3 10 (DW (b := by first | exact U1 kn | exact U3 (hme.at 0 rfl)) (c := ?_))) | refine DD 10 ?_ | fail)
      all_goals refine D8 ?_
      repeat' (first | refine KK ?_ | refine NB fun b => ?_ | ((refine KB ?_ ?_ <;> intro hp)) | refine KG ?_ | fail)
      all_goals first | (exfalso; first | omega | contradiction | (exact absurd ‹_› ‹¬ _›)) | skip
      all_goals (subst hw_error; exact ret_m2 rfl (rv_agg (vs := [.string (ofB [101, 114, 114, 111, 114]), .int .i64 e, .int .i64 n, .string ⟨#[]⟩, .int .i64 0, .int .i64 0, .int .i64 0, .string ⟨#[]⟩, .string ⟨#[]⟩]) 3 rfl rfl rfl rfl rfl (by repeat first | exact lc_nil | refine lc_cons rfl ?_)) (rv_tmp rfl) (fun μ' _ _ => ⟨lnOf (.error e n), false, rfl, by rw [hev]⟩))
    rw [decide_eq_true hend] at hov
    rw [hcn.2 hend] at hev0
    have hev : oneR keyR l = some (.error e n) := hev0
    repeat' (first | refine KO ?_ | ((with_reducible apply F1 29); exact rfl; exact EN; first | (exact fun w μc hw hse => hwd1 w μc hw) | (exact fun w μc hw hse => hwd2 w μc hw)) | ((with_reducible apply F2 30); exact rfl; exact EN; (exact fun w hw => rerrors_spec w _ hw); rintro v1 μ1 hle1 ⟨A1, B1, rfl, hs1, hs2⟩; obtain ⟨ad, xe, rfl, hxe, hme⟩ := hs2.get hk30) | ((with_reducible apply F2 34); exact rfl; exact EN; (exact fun w hw => rends_spec w _ hw); rintro v1 μ1 hle1 ⟨A1, rfl, hs1⟩) | ((with_reducible apply F1 31); exact rfl; exact EN; first | (exact fun w μc hw hse => by have := place_spec x1 errL A1 30 30 (by decide) w μc hw (hs1.mono hse.le); rw [hkd] at this; exact this) | (exact fun w μc hw hse => by have := place_spec x1 endL A1 7 7 (by decide) w μc hw (hs1.mono hse.le); rw [hkd] at this; exact this)) | ((with_reducible apply F1 32); exact rfl; exact EN; (exact fun w μc hw hse => hns w μc hw)) | ((with_reducible apply F1 35); exact rfl; exact EN; (exact fun w μc hw hse => hns w μc hw)) | ((with_reducible apply F1 33); exact rfl; exact EN; (exact fun w μc hw hse => hov w μc hw)) | ((with_reducible apply F2 36); exact rfl; exact EN; (exact fun w hw => readEvent_spec l i1 hl hi1 w _ hw); rintro v1 μ1 hle1 ⟨ln, lok, rfl, hln⟩) | refine KI ?_ | refine NB fun b => ?_ | ((refine KB ?_ ?_ <;> intro hp)) | refine KG ?_ | fail)
    all_goals first | (exfalso; first | omega | contradiction | (exact absurd ‹_› ‹¬ _›)) | skip
    all_goals (obtain rfl : e = xe := by rw [← hke, List.getD_eq_getElem?_getD, hxe]; rfl)
    refine gc_draw 11 _ (by kernel_rfl) rfl (List.Sublist.cons_cons _ (List.Sublist.cons _ (List.Sublist.cons _ (List.Sublist.cons _ (List.nil_sublist _))))) ?_
    all_goals (first | refine D1 0 ?_ | (refine DV (k := 0) (b := by first | exact U1 kn | exact U3 (hme.at 0 rfl)) (c := ?_)) | (refine D3 0 (DW (b := by first | exact U1 kn | exact U3 (hme.at 0 rfl)) (c := ?_))) | refine DD 0 ?_ | fail)
    all_goals (first | refine D1 1 ?_ | (refine DV (k := 1) (b := by first | exact U1 kn | exact U3 (hme.at 0 rfl)) (c := ?_)) | (refine D3 1 (DW (b := by first | exact U1 kn | exact U3 (hme.at 0 rfl)) (c := ?_))) | refine DD 1 ?_ | fail)
    all_goals (first | refine D1 2 ?_ | (refine DV (k := 2) (b := by first | exact U1 kn | exact U3 (hme.at 0 rfl)) (c := ?_)) | (refine D3 2 (DW (b := by first | exact U1 kn | exact U3 (hme.at 0 rfl)) (c := ?_))) | refine DD 2 ?_ | fail)
    all_goals (first | refine D1 3 ?_ | (refine DV (k := 3) (b := by first | exact U1 kn | exact U3 (hme.at 0 rfl)) (c := ?_)) | (refine D3 3 (DW (b := by first | exact U1 kn | exact U3 (hme.at 0 rfl)) (c := ?_))) | refine DD 3 ?_ | fail)
    all_goals (first | refine D1 4 ?_ | (refine DV (k := 4) (b := by first | exact U1 kn | exact U3 (hme.at 0 rfl)) (c := ?_)) | (refine D3 4 (DW (b := by first | exact U1 kn | exact U3 (hme.at 0 rfl)) (c := ?_))) | refine DD 4 ?_ | fail)
    all_goals (first | refine D1 5 ?_ | (refine DV (k := 5) (b := by first | exact U1 kn | exact U3 (hme.at 0 rfl)) (c := ?_)) | (refine D3 5 (DW (b := by first | exact U1 kn | exact U3 (hme.at 0 rfl)) (c := ?_))) | refine DD 5 ?_ | fail)
    all_goals (first | refine D1 6 ?_ | (refine DV (k := 6) (b := by first | exact U1 kn | exact U3 (hme.at 0 rfl)) (c := ?_)) | (refine D3 6 (DW (b := by first | exact U1 kn | exact U3 (hme.at 0 rfl)) (c := ?_))) | refine DD 6 ?_ | fail)
    all_goals (first | refine D1 7 ?_ | (refine DV (k := 7) (b := by first | exact U1 kn | exact U3 (hme.at 0 rfl)) (c := ?_)) | (refine D3 7 (DW (b := by first | exact U1 kn | exact U3 (hme.at 0 rfl)) (c := ?_))) | refine DD 7 ?_ | fail)
    all_goals (first | (refine D3 8 ?_; refine D5 ?_; (with_reducible apply F1 33); exact rfl; exact EN; (exact fun w μc hw hse => hov w μc hw); refine D9 ?_))
    all_goals (first | (refine D3 9 ?_; refine D5 ?_; refine Y0 ?_; refine D9 ?_))
    all_goals (first | refine D1 10 ?_ | (refine DV (k := 10) (b := by first | exact U1 kn | exact U3 (hme.at 0 rfl)) (c := ?_)) | (refine D3 10 (DW (b := by first | exact U1 kn | exact U3 (hme.at 0 rfl)) (c := ?_))) | refine DD 10 ?_ | fail)
    all_goals refine D8 ?_
    repeat' (first | refine KK ?_ | refine NB fun b => ?_ | ((refine KB ?_ ?_ <;> intro hp)) | refine KG ?_ | fail)
    all_goals first | (exfalso; first | omega | contradiction | (exact absurd ‹_› ‹¬ _›)) | skip
    all_goals (subst hw_error; exact ret_m2 rfl (rv_agg (vs := [.string (ofB [101, 114, 114, 111, 114]), .int .i64 e, .int .i64 n, .string ⟨#[]⟩, .int .i64 0, .int .i64 0, .int .i64 0, .string ⟨#[]⟩, .string ⟨#[]⟩]) 3 rfl rfl rfl rfl rfl (by repeat first | exact lc_nil | refine lc_cons rfl ?_)) (rv_tmp rfl) (fun μ' _ _ => ⟨lnOf (.error e n), true, rfl, by rw [hev]; exact ⟨rfl, rfl⟩⟩))
  rw [if_neg hw_error] at hev0
  by_cases hw_ends : w1 = [101, 110, 100, 115]
  · have z_error : ¬ ofB w1 = ⟨#[101, 114, 114, 111, 114]⟩ := fun h => hw_error (ofB_inj (b := [101, 114, 114, 111, 114]) h)
    have z_ends : ofB w1 = ⟨#[101, 110, 100, 115]⟩ := by rw [hw_ends]; rfl
    rw [if_pos hw_ends] at hev0
    rw [toCu_word l i1 hi1] at hev0
    have hwd2 := fun (w : World) (μ : Mem) (hμ : MOk μ w) => word_spec l i1 false hl (by omega) w μ hμ
    have hi2 := wordC_i (bad := false) hi1
    generalize (wordC l i1 false).1 = x1 at hwd2 hev0 ⊢
    generalize (wordC l i1 false).2.1 = i2 at hwd2 hi2 hev0 ⊢
    obtain ⟨kd, hkd⟩ : ∃ kd, placeB x1 endL 0 = kd := ⟨_, rfl⟩
    cases hb2 : (wordC l i1 false).2.2 with
    | true =>
      rw [hb2] at hwd2 hev0
      rw [if_pos rfl] at hev0
      have hev : oneR keyR l = none := hev0
      repeat' (first | refine KO ?_ | ((with_reducible apply F1 29); exact rfl; exact EN; first | (exact fun w μc hw hse => hwd1 w μc hw) | (exact fun w μc hw hse => hwd2 w μc hw)) | ((with_reducible apply F2 30); exact rfl; exact EN; (exact fun w hw => rerrors_spec w _ hw); rintro v1 μ1 hle1 ⟨A1, B1, rfl, hs1, hs2⟩) | ((with_reducible apply F2 34); exact rfl; exact EN; (exact fun w hw => rends_spec w _ hw); rintro v1 μ1 hle1 ⟨A1, rfl, hs1⟩) | ((with_reducible apply F1 31); exact rfl; exact EN; first | (exact fun w μc hw hse => by have := place_spec x1 errL A1 30 30 (by decide) w μc hw (hs1.mono hse.le); rw [hkd] at this; exact this) | (exact fun w μc hw hse => by have := place_spec x1 endL A1 7 7 (by decide) w μc hw (hs1.mono hse.le); rw [hkd] at this; exact this)) | ((with_reducible apply F1 32); exact rfl; exact EN; (exact fun w μc hw hse => hns w μc hw)) | ((with_reducible apply F1 35); exact rfl; exact EN; (exact fun w μc hw hse => hns w μc hw)) | ((with_reducible apply F1 33); exact rfl; exact EN; (exact fun w μc hw hse => hov w μc hw)) | ((with_reducible apply F2 36); exact rfl; exact EN; (exact fun w hw => readEvent_spec l i1 hl hi1 w _ hw); rintro v1 μ1 hle1 ⟨ln, lok, rfl, hln⟩) | refine KI ?_ | refine NB fun b => ?_ | ((refine KB ?_ ?_ <;> intro hp)) | refine KG ?_ | fail)
      all_goals first | (exfalso; first | omega | contradiction | (exact absurd ‹_› ‹¬ _›)) | skip
      all_goals exact ret_m2 rfl (rv_agg (vs := [.string ⟨#[]⟩, .int .i64 0, .int .i64 0, .string ⟨#[]⟩, .int .i64 0, .int .i64 0, .int .i64 0, .string ⟨#[]⟩, .string ⟨#[]⟩]) 2 rfl rfl rfl rfl rfl (by repeat first | exact lc_nil | refine lc_cons rfl ?_)) (rv_tmp rfl) (fun μ' _ _ => ⟨zeroLn, false, rfl, by rw [hev]⟩)
    | false =>
    rw [hb2] at hwd2 hev0
    rw [if_neg (by simp)] at hev0
    dsimp only at hev0
    have hpe := place_end x1
    rw [hkd] at hpe
    cases hf : findB endT x1 with
    | none =>
      rw [hf] at hpe hev0
      dsimp only at hpe
      have hev : oneR keyR l = none := hev0
      repeat' (first | refine KO ?_ | ((with_reducible apply F1 29); exact rfl; exact EN; first | (exact fun w μc hw hse => hwd1 w μc hw) | (exact fun w μc hw hse => hwd2 w μc hw)) | ((with_reducible apply F2 30); exact rfl; exact EN; (exact fun w hw => rerrors_spec w _ hw); rintro v1 μ1 hle1 ⟨A1, B1, rfl, hs1, hs2⟩) | ((with_reducible apply F2 34); exact rfl; exact EN; (exact fun w hw => rends_spec w _ hw); rintro v1 μ1 hle1 ⟨A1, rfl, hs1⟩) | ((with_reducible apply F1 31); exact rfl; exact EN; first | (exact fun w μc hw hse => by have := place_spec x1 errL A1 30 30 (by decide) w μc hw (hs1.mono hse.le); rw [hkd] at this; exact this) | (exact fun w μc hw hse => by have := place_spec x1 endL A1 7 7 (by decide) w μc hw (hs1.mono hse.le); rw [hkd] at this; exact this)) | ((with_reducible apply F1 32); exact rfl; exact EN; (exact fun w μc hw hse => hns w μc hw)) | ((with_reducible apply F1 35); exact rfl; exact EN; (exact fun w μc hw hse => hns w μc hw)) | ((with_reducible apply F1 33); exact rfl; exact EN; (exact fun w μc hw hse => hov w μc hw)) | ((with_reducible apply F2 36); exact rfl; exact EN; (exact fun w hw => readEvent_spec l i1 hl hi1 w _ hw); rintro v1 μ1 hle1 ⟨ln, lok, rfl, hln⟩) | refine KI ?_ | refine NB fun b => ?_ | ((refine KB ?_ ?_ <;> intro hp)) | refine KG ?_ | fail)
      all_goals first | (exfalso; first | omega | contradiction | (exact absurd ‹_› ‹¬ _›)) | skip
      all_goals exact ret_m2 rfl (rv_agg (vs := [.string ⟨#[]⟩, .int .i64 0, .int .i64 0, .string ⟨#[]⟩, .int .i64 0, .int .i64 0, .int .i64 0, .string ⟨#[]⟩, .string ⟨#[]⟩]) 2 rfl rfl rfl rfl rfl (by repeat first | exact lc_nil | refine lc_cons rfl ?_)) (rv_tmp rfl) (fun μ' _ _ => ⟨zeroLn, false, rfl, by rw [hev]⟩)
    | some e =>
    rw [hf] at hpe hev0
    dsimp only at hpe hev0
    subst hpe
    have hke : 0 ≤ kd := by
      have key : ∀ x ∈ endT, 0 ≤ x.1 := by decide +kernel
      exact key _ (findB_some hf)
    rw [toCu_quo l i2 hi2] at hev0
    have hns := fun (w : World) (μ : Mem) (hμ : MOk μ w) => quoted_spec57 l i2 false hl hi2 w μ hμ
    have hi3 := quoC_i (bad := false) hi2
    generalize (quoC l i2 false).1 = n at hns hev0 ⊢
    generalize (quoC l i2 false).2.1 = i3 at hns hi3 hev0 ⊢
    have hcn := toCu_none hi3
    cases hb3 : (quoC l i2 false).2.2 with
    | true =>
      rw [hb3] at hns hev0
      rw [if_pos rfl] at hev0
      have hev : oneR keyR l = none := hev0
      have hov := fun (w : World) (μ : Mem) (hμ : MOk μ w) => over_spec l i3 true hl (by omega) w μ hμ
      simp only [Bool.not_true, Bool.false_and] at hov
      repeat' (first | refine KO ?_ | ((with_reducible apply F1 29); exact rfl; exact EN; first | (exact fun w μc hw hse => hwd1 w μc hw) | (exact fun w μc hw hse => hwd2 w μc hw)) | ((with_reducible apply F2 30); exact rfl; exact EN; (exact fun w hw => rerrors_spec w _ hw); rintro v1 μ1 hle1 ⟨A1, B1, rfl, hs1, hs2⟩) | ((with_reducible apply F2 34); exact rfl; exact EN; (exact fun w hw => rends_spec w _ hw); rintro v1 μ1 hle1 ⟨A1, rfl, hs1⟩) | ((with_reducible apply F1 31); exact rfl; exact EN; first | (exact fun w μc hw hse => by have := place_spec x1 errL A1 30 30 (by decide) w μc hw (hs1.mono hse.le); rw [hkd] at this; exact this) | (exact fun w μc hw hse => by have := place_spec x1 endL A1 7 7 (by decide) w μc hw (hs1.mono hse.le); rw [hkd] at this; exact this)) | ((with_reducible apply F1 32); exact rfl; exact EN; (exact fun w μc hw hse => hns w μc hw)) | ((with_reducible apply F1 35); exact rfl; exact EN; (exact fun w μc hw hse => hns w μc hw)) | ((with_reducible apply F1 33); exact rfl; exact EN; (exact fun w μc hw hse => hov w μc hw)) | ((with_reducible apply F2 36); exact rfl; exact EN; (exact fun w hw => readEvent_spec l i1 hl hi1 w _ hw); rintro v1 μ1 hle1 ⟨ln, lok, rfl, hln⟩) | refine KI ?_ | refine NB fun b => ?_ | ((refine KB ?_ ?_ <;> intro hp)) | refine KG ?_ | fail)
      all_goals first | (exfalso; first | omega | contradiction | (exact absurd ‹_› ‹¬ _›)) | skip
      all_goals (subst hw_ends; exact ret_m2 rfl (rv_agg (vs := [.string (ofB [101, 110, 100, 115]), .int .i64 kd, .int .i64 0, .string (ofB n), .int .i64 0, .int .i64 0, .int .i64 0, .string ⟨#[]⟩, .string ⟨#[]⟩]) 3 rfl rfl rfl rfl rfl (by repeat first | exact lc_nil | refine lc_cons rfl ?_)) (rv_tmp rfl) (fun μ' _ _ => ⟨lnOf (.ends kd n), false, rfl, by rw [hev]⟩))
    | false =>
    rw [hb3] at hns hev0
    rw [if_neg (by simp)] at hev0
    try dsimp only at hev0
    have hov := fun (w : World) (μ : Mem) (hμ : MOk μ w) => over_spec l i3 false hl (by omega) w μ hμ
    simp only [Bool.not_false, Bool.true_and] at hov
    by_cases hend : i3 = l.length + 1
    rotate_left
    · rw [decide_eq_false hend] at hov
      have hev : oneR keyR l = none := by
        rw [hev0]
        cases hc : toCu l i3 with
        | none => exact absurd (hcn.1 hc) hend
        | some z => rfl
      repeat' (first | refine KO ?_ | ((with_reducible apply F1 29); exact rfl; exact EN; first | (exact fun w μc hw hse => hwd1 w μc hw) | (exact fun w μc hw hse => hwd2 w μc hw)) | ((with_reducible apply F2 30); exact rfl; exact EN; (exact fun w hw => rerrors_spec w _ hw); rintro v1 μ1 hle1 ⟨A1, B1, rfl, hs1, hs2⟩) | ((with_reducible apply F2 34); exact rfl; exact EN; (exact fun w hw => rends_spec w _ hw); rintro v1 μ1 hle1 ⟨A1, rfl, hs1⟩) | ((with_reducible apply F1 31); exact rfl; exact EN; first | (exact fun w μc hw hse => by have := place_spec x1 errL A1 30 30 (by decide) w μc hw (hs1.mono hse.le); rw [hkd] at this; exact this) | (exact fun w μc hw hse => by have := place_spec x1 endL A1 7 7 (by decide) w μc hw (hs1.mono hse.le); rw [hkd] at this; exact this)) | ((with_reducible apply F1 32); exact rfl; exact EN; (exact fun w μc hw hse => hns w μc hw)) | ((with_reducible apply F1 35); exact rfl; exact EN; (exact fun w μc hw hse => hns w μc hw)) | ((with_reducible apply F1 33); exact rfl; exact EN; (exact fun w μc hw hse => hov w μc hw)) | ((with_reducible apply F2 36); exact rfl; exact EN; (exact fun w hw => readEvent_spec l i1 hl hi1 w _ hw); rintro v1 μ1 hle1 ⟨ln, lok, rfl, hln⟩) | refine KI ?_ | refine NB fun b => ?_ | ((refine KB ?_ ?_ <;> intro hp)) | refine KG ?_ | fail)
      all_goals first | (exfalso; first | omega | contradiction | (exact absurd ‹_› ‹¬ _›)) | skip
      all_goals (subst hw_ends; exact ret_m2 rfl (rv_agg (vs := [.string (ofB [101, 110, 100, 115]), .int .i64 kd, .int .i64 0, .string (ofB n), .int .i64 0, .int .i64 0, .int .i64 0, .string ⟨#[]⟩, .string ⟨#[]⟩]) 3 rfl rfl rfl rfl rfl (by repeat first | exact lc_nil | refine lc_cons rfl ?_)) (rv_tmp rfl) (fun μ' _ _ => ⟨lnOf (.ends kd n), false, rfl, by rw [hev]⟩))
    rw [decide_eq_true hend] at hov
    rw [hcn.2 hend] at hev0
    have hev : oneR keyR l = some (.ends kd n) := hev0
    repeat' (first | refine KO ?_ | ((with_reducible apply F1 29); exact rfl; exact EN; first | (exact fun w μc hw hse => hwd1 w μc hw) | (exact fun w μc hw hse => hwd2 w μc hw)) | ((with_reducible apply F2 30); exact rfl; exact EN; (exact fun w hw => rerrors_spec w _ hw); rintro v1 μ1 hle1 ⟨A1, B1, rfl, hs1, hs2⟩) | ((with_reducible apply F2 34); exact rfl; exact EN; (exact fun w hw => rends_spec w _ hw); rintro v1 μ1 hle1 ⟨A1, rfl, hs1⟩) | ((with_reducible apply F1 31); exact rfl; exact EN; first | (exact fun w μc hw hse => by have := place_spec x1 errL A1 30 30 (by decide) w μc hw (hs1.mono hse.le); rw [hkd] at this; exact this) | (exact fun w μc hw hse => by have := place_spec x1 endL A1 7 7 (by decide) w μc hw (hs1.mono hse.le); rw [hkd] at this; exact this)) | ((with_reducible apply F1 32); exact rfl; exact EN; (exact fun w μc hw hse => hns w μc hw)) | ((with_reducible apply F1 35); exact rfl; exact EN; (exact fun w μc hw hse => hns w μc hw)) | ((with_reducible apply F1 33); exact rfl; exact EN; (exact fun w μc hw hse => hov w μc hw)) | ((with_reducible apply F2 36); exact rfl; exact EN; (exact fun w hw => readEvent_spec l i1 hl hi1 w _ hw); rintro v1 μ1 hle1 ⟨ln, lok, rfl, hln⟩) | refine KI ?_ | refine NB fun b => ?_ | ((refine KB ?_ ?_ <;> intro hp)) | refine KG ?_ | fail)
    all_goals first | (exfalso; first | omega | contradiction | (exact absurd ‹_› ‹¬ _›)) | skip
    all_goals (subst hw_ends; exact ret_m2 rfl (rv_agg (vs := [.string (ofB [101, 110, 100, 115]), .int .i64 kd, .int .i64 0, .string (ofB n), .int .i64 0, .int .i64 0, .int .i64 0, .string ⟨#[]⟩, .string ⟨#[]⟩]) 3 rfl rfl rfl rfl rfl (by repeat first | exact lc_nil | refine lc_cons rfl ?_)) (rv_tmp rfl) (fun μ' _ _ => ⟨lnOf (.ends kd n), true, rfl, by rw [hev]; exact ⟨rfl, rfl⟩⟩))
  rw [if_neg hw_ends] at hev0
  by_cases hw_steps : w1 = [115, 116, 101, 112, 115]
  · have z_error : ¬ ofB w1 = ⟨#[101, 114, 114, 111, 114]⟩ := fun h => hw_error (ofB_inj (b := [101, 114, 114, 111, 114]) h)
    have z_ends : ¬ ofB w1 = ⟨#[101, 110, 100, 115]⟩ := fun h => hw_ends (ofB_inj (b := [101, 110, 100, 115]) h)
    have z_steps : ofB w1 = ⟨#[115, 116, 101, 112, 115]⟩ := by rw [hw_steps]; rfl
    rw [if_pos hw_steps] at hev0
    rw [toCu_num l i1 hi1] at hev0
    have hns := fun (w : World) (μ : Mem) (hμ : MOk μ w) => number_spec l i1 false hl hi1 w μ hμ
    have hi3 := numC_i (bad := false) hi1
    generalize (numC l i1 false).1 = n at hns hev0 ⊢
    generalize (numC l i1 false).2.1 = i3 at hns hi3 hev0 ⊢
    have hcn := toCu_none hi3
    cases hb3 : (numC l i1 false).2.2 with
    | true =>
      rw [hb3] at hns hev0
      rw [if_pos rfl] at hev0
      have hev : oneR keyR l = none := hev0
      have hov := fun (w : World) (μ : Mem) (hμ : MOk μ w) => over_spec l i3 true hl (by omega) w μ hμ
      simp only [Bool.not_true, Bool.false_and] at hov
      repeat' (first | refine KO ?_ | ((with_reducible apply F1 29); exact rfl; exact EN; first | (exact fun w μc hw hse => hwd1 w μc hw) | (exact fun w μc hw hse => hwd2 w μc hw)) | ((with_reducible apply F2 30); exact rfl; exact EN; (exact fun w hw => rerrors_spec w _ hw); rintro v1 μ1 hle1 ⟨A1, B1, rfl, hs1, hs2⟩) | ((with_reducible apply F2 34); exact rfl; exact EN; (exact fun w hw => rends_spec w _ hw); rintro v1 μ1 hle1 ⟨A1, rfl, hs1⟩) | ((with_reducible apply F1 31); exact rfl; exact EN; first | (exact fun w μc hw hse => by have := place_spec x1 errL A1 30 30 (by decide) w μc hw (hs1.mono hse.le); rw [hkd] at this; exact this) | (exact fun w μc hw hse => by have := place_spec x1 endL A1 7 7 (by decide) w μc hw (hs1.mono hse.le); rw [hkd] at this; exact this)) | ((with_reducible apply F1 32); exact rfl; exact EN; (exact fun w μc hw hse => hns w μc hw)) | ((with_reducible apply F1 35); exact rfl; exact EN; (exact fun w μc hw hse => hns w μc hw)) | ((with_reducible apply F1 33); exact rfl; exact EN; (exact fun w μc hw hse => hov w μc hw)) | ((with_reducible apply F2 36); exact rfl; exact EN; (exact fun w hw => readEvent_spec l i1 hl hi1 w _ hw); rintro v1 μ1 hle1 ⟨ln, lok, rfl, hln⟩) | refine KI ?_ | refine NB fun b => ?_ | ((refine KB ?_ ?_ <;> intro hp)) | refine KG ?_ | fail)
      all_goals first | (exfalso; first | omega | contradiction | (exact absurd ‹_› ‹¬ _›)) | skip
      all_goals (subst hw_steps; exact ret_m2 rfl (rv_agg (vs := [.string (ofB [115, 116, 101, 112, 115]), .int .i64 n, .int .i64 0, .string ⟨#[]⟩, .int .i64 0, .int .i64 0, .int .i64 0, .string ⟨#[]⟩, .string ⟨#[]⟩]) 2 rfl rfl rfl rfl rfl (by repeat first | exact lc_nil | refine lc_cons rfl ?_)) (rv_tmp rfl) (fun μ' _ _ => ⟨lnOf (.steps n), false, rfl, by rw [hev]⟩))
    | false =>
    rw [hb3] at hns hev0
    rw [if_neg (by simp)] at hev0
    try dsimp only at hev0
    have hov := fun (w : World) (μ : Mem) (hμ : MOk μ w) => over_spec l i3 false hl (by omega) w μ hμ
    simp only [Bool.not_false, Bool.true_and] at hov
    by_cases hend : i3 = l.length + 1
    rotate_left
    · rw [decide_eq_false hend] at hov
      have hev : oneR keyR l = none := by
        rw [hev0]
        cases hc : toCu l i3 with
        | none => exact absurd (hcn.1 hc) hend
        | some z => rfl
      repeat' (first | refine KO ?_ | ((with_reducible apply F1 29); exact rfl; exact EN; first | (exact fun w μc hw hse => hwd1 w μc hw) | (exact fun w μc hw hse => hwd2 w μc hw)) | ((with_reducible apply F2 30); exact rfl; exact EN; (exact fun w hw => rerrors_spec w _ hw); rintro v1 μ1 hle1 ⟨A1, B1, rfl, hs1, hs2⟩) | ((with_reducible apply F2 34); exact rfl; exact EN; (exact fun w hw => rends_spec w _ hw); rintro v1 μ1 hle1 ⟨A1, rfl, hs1⟩) | ((with_reducible apply F1 31); exact rfl; exact EN; first | (exact fun w μc hw hse => by have := place_spec x1 errL A1 30 30 (by decide) w μc hw (hs1.mono hse.le); rw [hkd] at this; exact this) | (exact fun w μc hw hse => by have := place_spec x1 endL A1 7 7 (by decide) w μc hw (hs1.mono hse.le); rw [hkd] at this; exact this)) | ((with_reducible apply F1 32); exact rfl; exact EN; (exact fun w μc hw hse => hns w μc hw)) | ((with_reducible apply F1 35); exact rfl; exact EN; (exact fun w μc hw hse => hns w μc hw)) | ((with_reducible apply F1 33); exact rfl; exact EN; (exact fun w μc hw hse => hov w μc hw)) | ((with_reducible apply F2 36); exact rfl; exact EN; (exact fun w hw => readEvent_spec l i1 hl hi1 w _ hw); rintro v1 μ1 hle1 ⟨ln, lok, rfl, hln⟩) | refine KI ?_ | refine NB fun b => ?_ | ((refine KB ?_ ?_ <;> intro hp)) | refine KG ?_ | fail)
      all_goals first | (exfalso; first | omega | contradiction | (exact absurd ‹_› ‹¬ _›)) | skip
      all_goals (subst hw_steps; exact ret_m2 rfl (rv_agg (vs := [.string (ofB [115, 116, 101, 112, 115]), .int .i64 n, .int .i64 0, .string ⟨#[]⟩, .int .i64 0, .int .i64 0, .int .i64 0, .string ⟨#[]⟩, .string ⟨#[]⟩]) 2 rfl rfl rfl rfl rfl (by repeat first | exact lc_nil | refine lc_cons rfl ?_)) (rv_tmp rfl) (fun μ' _ _ => ⟨lnOf (.steps n), false, rfl, by rw [hev]⟩))
    rw [decide_eq_true hend] at hov
    rw [hcn.2 hend] at hev0
    have hev : oneR keyR l = some (.steps n) := hev0
    repeat' (first | refine KO ?_ | ((with_reducible apply F1 29); exact rfl; exact EN; first | (exact fun w μc hw hse => hwd1 w μc hw) | (exact fun w μc hw hse => hwd2 w μc hw)) | ((with_reducible apply F2 30); exact rfl; exact EN; (exact fun w hw => rerrors_spec w _ hw); rintro v1 μ1 hle1 ⟨A1, B1, rfl, hs1, hs2⟩) | ((with_reducible apply F2 34); exact rfl; exact EN; (exact fun w hw => rends_spec w _ hw); rintro v1 μ1 hle1 ⟨A1, rfl, hs1⟩) | ((with_reducible apply F1 31); exact rfl; exact EN; first | (exact fun w μc hw hse => by have := place_spec x1 errL A1 30 30 (by decide) w μc hw (hs1.mono hse.le); rw [hkd] at this; exact this) | (exact fun w μc hw hse => by have := place_spec x1 endL A1 7 7 (by decide) w μc hw (hs1.mono hse.le); rw [hkd] at this; exact this)) | ((with_reducible apply F1 32); exact rfl; exact EN; (exact fun w μc hw hse => hns w μc hw)) | ((with_reducible apply F1 35); exact rfl; exact EN; (exact fun w μc hw hse => hns w μc hw)) | ((with_reducible apply F1 33); exact rfl; exact EN; (exact fun w μc hw hse => hov w μc hw)) | ((with_reducible apply F2 36); exact rfl; exact EN; (exact fun w hw => readEvent_spec l i1 hl hi1 w _ hw); rintro v1 μ1 hle1 ⟨ln, lok, rfl, hln⟩) | refine KI ?_ | refine NB fun b => ?_ | ((refine KB ?_ ?_ <;> intro hp)) | refine KG ?_ | fail)
    all_goals first | (exfalso; first | omega | contradiction | (exact absurd ‹_› ‹¬ _›)) | skip
    all_goals (subst hw_steps; exact ret_m2 rfl (rv_agg (vs := [.string (ofB [115, 116, 101, 112, 115]), .int .i64 n, .int .i64 0, .string ⟨#[]⟩, .int .i64 0, .int .i64 0, .int .i64 0, .string ⟨#[]⟩, .string ⟨#[]⟩]) 2 rfl rfl rfl rfl rfl (by repeat first | exact lc_nil | refine lc_cons rfl ?_)) (rv_tmp rfl) (fun μ' _ _ => ⟨lnOf (.steps n), true, rfl, by rw [hev]; exact ⟨rfl, rfl⟩⟩))
  rw [if_neg hw_steps] at hev0
  by_cases hw_made : w1 = [109, 97, 100, 101]
  · have z_error : ¬ ofB w1 = ⟨#[101, 114, 114, 111, 114]⟩ := fun h => hw_error (ofB_inj (b := [101, 114, 114, 111, 114]) h)
    have z_ends : ¬ ofB w1 = ⟨#[101, 110, 100, 115]⟩ := fun h => hw_ends (ofB_inj (b := [101, 110, 100, 115]) h)
    have z_steps : ¬ ofB w1 = ⟨#[115, 116, 101, 112, 115]⟩ := fun h => hw_steps (ofB_inj (b := [115, 116, 101, 112, 115]) h)
    have z_made : ofB w1 = ⟨#[109, 97, 100, 101]⟩ := by rw [hw_made]; rfl
    rw [if_pos hw_made] at hev0
    rw [toCu_num l i1 hi1] at hev0
    have hns := fun (w : World) (μ : Mem) (hμ : MOk μ w) => number_spec l i1 false hl hi1 w μ hμ
    have hi3 := numC_i (bad := false) hi1
    generalize (numC l i1 false).1 = n at hns hev0 ⊢
    generalize (numC l i1 false).2.1 = i3 at hns hi3 hev0 ⊢
    have hcn := toCu_none hi3
    cases hb3 : (numC l i1 false).2.2 with
    | true =>
      rw [hb3] at hns hev0
      rw [if_pos rfl] at hev0
      have hev : oneR keyR l = none := hev0
      have hov := fun (w : World) (μ : Mem) (hμ : MOk μ w) => over_spec l i3 true hl (by omega) w μ hμ
      simp only [Bool.not_true, Bool.false_and] at hov
      repeat' (first | refine KO ?_ | ((with_reducible apply F1 29); exact rfl; exact EN; first | (exact fun w μc hw hse => hwd1 w μc hw) | (exact fun w μc hw hse => hwd2 w μc hw)) | ((with_reducible apply F2 30); exact rfl; exact EN; (exact fun w hw => rerrors_spec w _ hw); rintro v1 μ1 hle1 ⟨A1, B1, rfl, hs1, hs2⟩) | ((with_reducible apply F2 34); exact rfl; exact EN; (exact fun w hw => rends_spec w _ hw); rintro v1 μ1 hle1 ⟨A1, rfl, hs1⟩) | ((with_reducible apply F1 31); exact rfl; exact EN; first | (exact fun w μc hw hse => by have := place_spec x1 errL A1 30 30 (by decide) w μc hw (hs1.mono hse.le); rw [hkd] at this; exact this) | (exact fun w μc hw hse => by have := place_spec x1 endL A1 7 7 (by decide) w μc hw (hs1.mono hse.le); rw [hkd] at this; exact this)) | ((with_reducible apply F1 32); exact rfl; exact EN; (exact fun w μc hw hse => hns w μc hw)) | ((with_reducible apply F1 35); exact rfl; exact EN; (exact fun w μc hw hse => hns w μc hw)) | ((with_reducible apply F1 33); exact rfl; exact EN; (exact fun w μc hw hse => hov w μc hw)) | ((with_reducible apply F2 36); exact rfl; exact EN; (exact fun w hw => readEvent_spec l i1 hl hi1 w _ hw); rintro v1 μ1 hle1 ⟨ln, lok, rfl, hln⟩) | refine KI ?_ | refine NB fun b => ?_ | ((refine KB ?_ ?_ <;> intro hp)) | refine KG ?_ | fail)
      all_goals first | (exfalso; first | omega | contradiction | (exact absurd ‹_› ‹¬ _›)) | skip
      all_goals (subst hw_made; exact ret_m2 rfl (rv_agg (vs := [.string (ofB [109, 97, 100, 101]), .int .i64 n, .int .i64 0, .string ⟨#[]⟩, .int .i64 0, .int .i64 0, .int .i64 0, .string ⟨#[]⟩, .string ⟨#[]⟩]) 2 rfl rfl rfl rfl rfl (by repeat first | exact lc_nil | refine lc_cons rfl ?_)) (rv_tmp rfl) (fun μ' _ _ => ⟨lnOf (.made n), false, rfl, by rw [hev]⟩))
    | false =>
    rw [hb3] at hns hev0
    rw [if_neg (by simp)] at hev0
    try dsimp only at hev0
    have hov := fun (w : World) (μ : Mem) (hμ : MOk μ w) => over_spec l i3 false hl (by omega) w μ hμ
    simp only [Bool.not_false, Bool.true_and] at hov
    by_cases hend : i3 = l.length + 1
    rotate_left
    · rw [decide_eq_false hend] at hov
      have hev : oneR keyR l = none := by
        rw [hev0]
        cases hc : toCu l i3 with
        | none => exact absurd (hcn.1 hc) hend
        | some z => rfl
      repeat' (first | refine KO ?_ | ((with_reducible apply F1 29); exact rfl; exact EN; first | (exact fun w μc hw hse => hwd1 w μc hw) | (exact fun w μc hw hse => hwd2 w μc hw)) | ((with_reducible apply F2 30); exact rfl; exact EN; (exact fun w hw => rerrors_spec w _ hw); rintro v1 μ1 hle1 ⟨A1, B1, rfl, hs1, hs2⟩) | ((with_reducible apply F2 34); exact rfl; exact EN; (exact fun w hw => rends_spec w _ hw); rintro v1 μ1 hle1 ⟨A1, rfl, hs1⟩) | ((with_reducible apply F1 31); exact rfl; exact EN; first | (exact fun w μc hw hse => by have := place_spec x1 errL A1 30 30 (by decide) w μc hw (hs1.mono hse.le); rw [hkd] at this; exact this) | (exact fun w μc hw hse => by have := place_spec x1 endL A1 7 7 (by decide) w μc hw (hs1.mono hse.le); rw [hkd] at this; exact this)) | ((with_reducible apply F1 32); exact rfl; exact EN; (exact fun w μc hw hse => hns w μc hw)) | ((with_reducible apply F1 35); exact rfl; exact EN; (exact fun w μc hw hse => hns w μc hw)) | ((with_reducible apply F1 33); exact rfl; exact EN; (exact fun w μc hw hse => hov w μc hw)) | ((with_reducible apply F2 36); exact rfl; exact EN; (exact fun w hw => readEvent_spec l i1 hl hi1 w _ hw); rintro v1 μ1 hle1 ⟨ln, lok, rfl, hln⟩) | refine KI ?_ | refine NB fun b => ?_ | ((refine KB ?_ ?_ <;> intro hp)) | refine KG ?_ | fail)
      all_goals first | (exfalso; first | omega | contradiction | (exact absurd ‹_› ‹¬ _›)) | skip
      all_goals (subst hw_made; exact ret_m2 rfl (rv_agg (vs := [.string (ofB [109, 97, 100, 101]), .int .i64 n, .int .i64 0, .string ⟨#[]⟩, .int .i64 0, .int .i64 0, .int .i64 0, .string ⟨#[]⟩, .string ⟨#[]⟩]) 2 rfl rfl rfl rfl rfl (by repeat first | exact lc_nil | refine lc_cons rfl ?_)) (rv_tmp rfl) (fun μ' _ _ => ⟨lnOf (.made n), false, rfl, by rw [hev]⟩))
    rw [decide_eq_true hend] at hov
    rw [hcn.2 hend] at hev0
    have hev : oneR keyR l = some (.made n) := hev0
    repeat' (first | refine KO ?_ | ((with_reducible apply F1 29); exact rfl; exact EN; first | (exact fun w μc hw hse => hwd1 w μc hw) | (exact fun w μc hw hse => hwd2 w μc hw)) | ((with_reducible apply F2 30); exact rfl; exact EN; (exact fun w hw => rerrors_spec w _ hw); rintro v1 μ1 hle1 ⟨A1, B1, rfl, hs1, hs2⟩) | ((with_reducible apply F2 34); exact rfl; exact EN; (exact fun w hw => rends_spec w _ hw); rintro v1 μ1 hle1 ⟨A1, rfl, hs1⟩) | ((with_reducible apply F1 31); exact rfl; exact EN; first | (exact fun w μc hw hse => by have := place_spec x1 errL A1 30 30 (by decide) w μc hw (hs1.mono hse.le); rw [hkd] at this; exact this) | (exact fun w μc hw hse => by have := place_spec x1 endL A1 7 7 (by decide) w μc hw (hs1.mono hse.le); rw [hkd] at this; exact this)) | ((with_reducible apply F1 32); exact rfl; exact EN; (exact fun w μc hw hse => hns w μc hw)) | ((with_reducible apply F1 35); exact rfl; exact EN; (exact fun w μc hw hse => hns w μc hw)) | ((with_reducible apply F1 33); exact rfl; exact EN; (exact fun w μc hw hse => hov w μc hw)) | ((with_reducible apply F2 36); exact rfl; exact EN; (exact fun w hw => readEvent_spec l i1 hl hi1 w _ hw); rintro v1 μ1 hle1 ⟨ln, lok, rfl, hln⟩) | refine KI ?_ | refine NB fun b => ?_ | ((refine KB ?_ ?_ <;> intro hp)) | refine KG ?_ | fail)
    all_goals first | (exfalso; first | omega | contradiction | (exact absurd ‹_› ‹¬ _›)) | skip
    all_goals (subst hw_made; exact ret_m2 rfl (rv_agg (vs := [.string (ofB [109, 97, 100, 101]), .int .i64 n, .int .i64 0, .string ⟨#[]⟩, .int .i64 0, .int .i64 0, .int .i64 0, .string ⟨#[]⟩, .string ⟨#[]⟩]) 2 rfl rfl rfl rfl rfl (by repeat first | exact lc_nil | refine lc_cons rfl ?_)) (rv_tmp rfl) (fun μ' _ _ => ⟨lnOf (.made n), true, rfl, by rw [hev]; exact ⟨rfl, rfl⟩⟩))
  rw [if_neg hw_made] at hev0
  by_cases hw_out : w1 = [111, 117, 116]
  · have z_error : ¬ ofB w1 = ⟨#[101, 114, 114, 111, 114]⟩ := fun h => hw_error (ofB_inj (b := [101, 114, 114, 111, 114]) h)
    have z_ends : ¬ ofB w1 = ⟨#[101, 110, 100, 115]⟩ := fun h => hw_ends (ofB_inj (b := [101, 110, 100, 115]) h)
    have z_steps : ¬ ofB w1 = ⟨#[115, 116, 101, 112, 115]⟩ := fun h => hw_steps (ofB_inj (b := [115, 116, 101, 112, 115]) h)
    have z_made : ¬ ofB w1 = ⟨#[109, 97, 100, 101]⟩ := fun h => hw_made (ofB_inj (b := [109, 97, 100, 101]) h)
    have z_out : ofB w1 = ⟨#[111, 117, 116]⟩ := by rw [hw_out]; rfl
    rw [if_pos hw_out] at hev0
    rw [toCu_quo l i1 hi1] at hev0
    have hns := fun (w : World) (μ : Mem) (hμ : MOk μ w) => quoted_spec57 l i1 false hl hi1 w μ hμ
    have hi3 := quoC_i (bad := false) hi1
    generalize (quoC l i1 false).1 = n at hns hev0 ⊢
    generalize (quoC l i1 false).2.1 = i3 at hns hi3 hev0 ⊢
    have hcn := toCu_none hi3
    cases hb3 : (quoC l i1 false).2.2 with
    | true =>
      rw [hb3] at hns hev0
      rw [if_pos rfl] at hev0
      have hev : oneR keyR l = none := hev0
      have hov := fun (w : World) (μ : Mem) (hμ : MOk μ w) => over_spec l i3 true hl (by omega) w μ hμ
      simp only [Bool.not_true, Bool.false_and] at hov
      repeat' (first | refine KO ?_ | ((with_reducible apply F1 29); exact rfl; exact EN; first | (exact fun w μc hw hse => hwd1 w μc hw) | (exact fun w μc hw hse => hwd2 w μc hw)) | ((with_reducible apply F2 30); exact rfl; exact EN; (exact fun w hw => rerrors_spec w _ hw); rintro v1 μ1 hle1 ⟨A1, B1, rfl, hs1, hs2⟩) | ((with_reducible apply F2 34); exact rfl; exact EN; (exact fun w hw => rends_spec w _ hw); rintro v1 μ1 hle1 ⟨A1, rfl, hs1⟩) | ((with_reducible apply F1 31); exact rfl; exact EN; first | (exact fun w μc hw hse => by have := place_spec x1 errL A1 30 30 (by decide) w μc hw (hs1.mono hse.le); rw [hkd] at this; exact this) | (exact fun w μc hw hse => by have := place_spec x1 endL A1 7 7 (by decide) w μc hw (hs1.mono hse.le); rw [hkd] at this; exact this)) | ((with_reducible apply F1 32); exact rfl; exact EN; (exact fun w μc hw hse => hns w μc hw)) | ((with_reducible apply F1 35); exact rfl; exact EN; (exact fun w μc hw hse => hns w μc hw)) | ((with_reducible apply F1 33); exact rfl; exact EN; (exact fun w μc hw hse => hov w μc hw)) | ((with_reducible apply F2 36); exact rfl; exact EN; (exact fun w hw => readEvent_spec l i1 hl hi1 w _ hw); rintro v1 μ1 hle1 ⟨ln, lok, rfl, hln⟩) | refine KI ?_ | refine NB fun b => ?_ | ((refine KB ?_ ?_ <;> intro hp)) | refine KG ?_ | fail)
      all_goals first | (exfalso; first | omega | contradiction | (exact absurd ‹_› ‹¬ _›)) | skip
      all_goals (subst hw_out; exact ret_m2 rfl (rv_agg (vs := [.string (ofB [111, 117, 116]), .int .i64 0, .int .i64 0, .string (ofB n), .int .i64 0, .int .i64 0, .int .i64 0, .string ⟨#[]⟩, .string ⟨#[]⟩]) 2 rfl rfl rfl rfl rfl (by repeat first | exact lc_nil | refine lc_cons rfl ?_)) (rv_tmp rfl) (fun μ' _ _ => ⟨lnOf (.out n), false, rfl, by rw [hev]⟩))
    | false =>
    rw [hb3] at hns hev0
    rw [if_neg (by simp)] at hev0
    try dsimp only at hev0
    have hov := fun (w : World) (μ : Mem) (hμ : MOk μ w) => over_spec l i3 false hl (by omega) w μ hμ
    simp only [Bool.not_false, Bool.true_and] at hov
    by_cases hend : i3 = l.length + 1
    rotate_left
    · rw [decide_eq_false hend] at hov
      have hev : oneR keyR l = none := by
        rw [hev0]
        cases hc : toCu l i3 with
        | none => exact absurd (hcn.1 hc) hend
        | some z => rfl
      repeat' (first | refine KO ?_ | ((with_reducible apply F1 29); exact rfl; exact EN; first | (exact fun w μc hw hse => hwd1 w μc hw) | (exact fun w μc hw hse => hwd2 w μc hw)) | ((with_reducible apply F2 30); exact rfl; exact EN; (exact fun w hw => rerrors_spec w _ hw); rintro v1 μ1 hle1 ⟨A1, B1, rfl, hs1, hs2⟩) | ((with_reducible apply F2 34); exact rfl; exact EN; (exact fun w hw => rends_spec w _ hw); rintro v1 μ1 hle1 ⟨A1, rfl, hs1⟩) | ((with_reducible apply F1 31); exact rfl; exact EN; first | (exact fun w μc hw hse => by have := place_spec x1 errL A1 30 30 (by decide) w μc hw (hs1.mono hse.le); rw [hkd] at this; exact this) | (exact fun w μc hw hse => by have := place_spec x1 endL A1 7 7 (by decide) w μc hw (hs1.mono hse.le); rw [hkd] at this; exact this)) | ((with_reducible apply F1 32); exact rfl; exact EN; (exact fun w μc hw hse => hns w μc hw)) | ((with_reducible apply F1 35); exact rfl; exact EN; (exact fun w μc hw hse => hns w μc hw)) | ((with_reducible apply F1 33); exact rfl; exact EN; (exact fun w μc hw hse => hov w μc hw)) | ((with_reducible apply F2 36); exact rfl; exact EN; (exact fun w hw => readEvent_spec l i1 hl hi1 w _ hw); rintro v1 μ1 hle1 ⟨ln, lok, rfl, hln⟩) | refine KI ?_ | refine NB fun b => ?_ | ((refine KB ?_ ?_ <;> intro hp)) | refine KG ?_ | fail)
      all_goals first | (exfalso; first | omega | contradiction | (exact absurd ‹_› ‹¬ _›)) | skip
      all_goals (subst hw_out; exact ret_m2 rfl (rv_agg (vs := [.string (ofB [111, 117, 116]), .int .i64 0, .int .i64 0, .string (ofB n), .int .i64 0, .int .i64 0, .int .i64 0, .string ⟨#[]⟩, .string ⟨#[]⟩]) 2 rfl rfl rfl rfl rfl (by repeat first | exact lc_nil | refine lc_cons rfl ?_)) (rv_tmp rfl) (fun μ' _ _ => ⟨lnOf (.out n), false, rfl, by rw [hev]⟩))
    rw [decide_eq_true hend] at hov
    rw [hcn.2 hend] at hev0
    have hev : oneR keyR l = some (.out n) := hev0
    repeat' (first | refine KO ?_ | ((with_reducible apply F1 29); exact rfl; exact EN; first | (exact fun w μc hw hse => hwd1 w μc hw) | (exact fun w μc hw hse => hwd2 w μc hw)) | ((with_reducible apply F2 30); exact rfl; exact EN; (exact fun w hw => rerrors_spec w _ hw); rintro v1 μ1 hle1 ⟨A1, B1, rfl, hs1, hs2⟩) | ((with_reducible apply F2 34); exact rfl; exact EN; (exact fun w hw => rends_spec w _ hw); rintro v1 μ1 hle1 ⟨A1, rfl, hs1⟩) | ((with_reducible apply F1 31); exact rfl; exact EN; first | (exact fun w μc hw hse => by have := place_spec x1 errL A1 30 30 (by decide) w μc hw (hs1.mono hse.le); rw [hkd] at this; exact this) | (exact fun w μc hw hse => by have := place_spec x1 endL A1 7 7 (by decide) w μc hw (hs1.mono hse.le); rw [hkd] at this; exact this)) | ((with_reducible apply F1 32); exact rfl; exact EN; (exact fun w μc hw hse => hns w μc hw)) | ((with_reducible apply F1 35); exact rfl; exact EN; (exact fun w μc hw hse => hns w μc hw)) | ((with_reducible apply F1 33); exact rfl; exact EN; (exact fun w μc hw hse => hov w μc hw)) | ((with_reducible apply F2 36); exact rfl; exact EN; (exact fun w hw => readEvent_spec l i1 hl hi1 w _ hw); rintro v1 μ1 hle1 ⟨ln, lok, rfl, hln⟩) | refine KI ?_ | refine NB fun b => ?_ | ((refine KB ?_ ?_ <;> intro hp)) | refine KG ?_ | fail)
    all_goals first | (exfalso; first | omega | contradiction | (exact absurd ‹_› ‹¬ _›)) | skip
    all_goals (subst hw_out; exact ret_m2 rfl (rv_agg (vs := [.string (ofB [111, 117, 116]), .int .i64 0, .int .i64 0, .string (ofB n), .int .i64 0, .int .i64 0, .int .i64 0, .string ⟨#[]⟩, .string ⟨#[]⟩]) 2 rfl rfl rfl rfl rfl (by repeat first | exact lc_nil | refine lc_cons rfl ?_)) (rv_tmp rfl) (fun μ' _ _ => ⟨lnOf (.out n), true, rfl, by rw [hev]; exact ⟨rfl, rfl⟩⟩))
  rw [if_neg hw_out] at hev0
  by_cases hw_event : w1 = [101, 118, 101, 110, 116]
  · have z_error : ¬ ofB w1 = ⟨#[101, 114, 114, 111, 114]⟩ := fun h => hw_error (ofB_inj (b := [101, 114, 114, 111, 114]) h)
    have z_ends : ¬ ofB w1 = ⟨#[101, 110, 100, 115]⟩ := fun h => hw_ends (ofB_inj (b := [101, 110, 100, 115]) h)
    have z_steps : ¬ ofB w1 = ⟨#[115, 116, 101, 112, 115]⟩ := fun h => hw_steps (ofB_inj (b := [115, 116, 101, 112, 115]) h)
    have z_made : ¬ ofB w1 = ⟨#[109, 97, 100, 101]⟩ := fun h => hw_made (ofB_inj (b := [109, 97, 100, 101]) h)
    have z_out : ¬ ofB w1 = ⟨#[111, 117, 116]⟩ := fun h => hw_out (ofB_inj (b := [111, 117, 116]) h)
    have z_event : ofB w1 = ⟨#[101, 118, 101, 110, 116]⟩ := by rw [hw_event]; rfl
    rw [if_pos hw_event] at hev0
    repeat' (first | refine KO ?_ | ((with_reducible apply F1 29); exact rfl; exact EN; first | (exact fun w μc hw hse => hwd1 w μc hw) | (exact fun w μc hw hse => hwd2 w μc hw)) | ((with_reducible apply F2 30); exact rfl; exact EN; (exact fun w hw => rerrors_spec w _ hw); rintro v1 μ1 hle1 ⟨A1, B1, rfl, hs1, hs2⟩) | ((with_reducible apply F2 34); exact rfl; exact EN; (exact fun w hw => rends_spec w _ hw); rintro v1 μ1 hle1 ⟨A1, rfl, hs1⟩) | ((with_reducible apply F1 31); exact rfl; exact EN; first | (exact fun w μc hw hse => by have := place_spec x1 errL A1 30 30 (by decide) w μc hw (hs1.mono hse.le); rw [hkd] at this; exact this) | (exact fun w μc hw hse => by have := place_spec x1 endL A1 7 7 (by decide) w μc hw (hs1.mono hse.le); rw [hkd] at this; exact this)) | ((with_reducible apply F1 32); exact rfl; exact EN; (exact fun w μc hw hse => hns w μc hw)) | ((with_reducible apply F1 35); exact rfl; exact EN; (exact fun w μc hw hse => hns w μc hw)) | ((with_reducible apply F1 33); exact rfl; exact EN; (exact fun w μc hw hse => hov w μc hw)) | ((with_reducible apply F2 36); exact rfl; exact EN; (exact fun w hw => readEvent_spec l i1 hl hi1 w _ hw); rintro v1 μ1 hle1 ⟨ln, lok, rfl, hln⟩) | refine KI ?_ | refine NB fun b => ?_ | ((refine KB ?_ ?_ <;> intro hp)) | refine KG ?_ | fail)
    all_goals first | (exfalso; first | omega | contradiction | (exact absurd ‹_› ‹¬ _›)) | skip
    all_goals exact ret_m2 rfl (rv_agg (vs := encLn ln) 1 rfl rfl rfl rfl rfl (by repeat first | exact lc_nil | refine lc_cons rfl ?_)) (rv_tmp rfl) (fun μ' _ _ => ⟨ln, lok, rfl, by rw [hev0]; exact hln⟩)
  rw [if_neg hw_event] at hev0
  have z_error : ¬ ofB w1 = ⟨#[101, 114, 114, 111, 114]⟩ := fun h => hw_error (ofB_inj (b := [101, 114, 114, 111, 114]) h)
  have z_ends : ¬ ofB w1 = ⟨#[101, 110, 100, 115]⟩ := fun h => hw_ends (ofB_inj (b := [101, 110, 100, 115]) h)
  have z_steps : ¬ ofB w1 = ⟨#[115, 116, 101, 112, 115]⟩ := fun h => hw_steps (ofB_inj (b := [115, 116, 101, 112, 115]) h)
  have z_made : ¬ ofB w1 = ⟨#[109, 97, 100, 101]⟩ := fun h => hw_made (ofB_inj (b := [109, 97, 100, 101]) h)
  have z_out : ¬ ofB w1 = ⟨#[111, 117, 116]⟩ := fun h => hw_out (ofB_inj (b := [111, 117, 116]) h)
  have z_event : ¬ ofB w1 = ⟨#[101, 118, 101, 110, 116]⟩ := fun h => hw_event (ofB_inj (b := [101, 118, 101, 110, 116]) h)
  have hev : oneR keyR l = none := hev0
  repeat' (first | refine KO ?_ | ((with_reducible apply F1 29); exact rfl; exact EN; first | (exact fun w μc hw hse => hwd1 w μc hw) | (exact fun w μc hw hse => hwd2 w μc hw)) | ((with_reducible apply F2 30); exact rfl; exact EN; (exact fun w hw => rerrors_spec w _ hw); rintro v1 μ1 hle1 ⟨A1, B1, rfl, hs1, hs2⟩) | ((with_reducible apply F2 34); exact rfl; exact EN; (exact fun w hw => rends_spec w _ hw); rintro v1 μ1 hle1 ⟨A1, rfl, hs1⟩) | ((with_reducible apply F1 31); exact rfl; exact EN; first | (exact fun w μc hw hse => by have := place_spec x1 errL A1 30 30 (by decide) w μc hw (hs1.mono hse.le); rw [hkd] at this; exact this) | (exact fun w μc hw hse => by have := place_spec x1 endL A1 7 7 (by decide) w μc hw (hs1.mono hse.le); rw [hkd] at this; exact this)) | ((with_reducible apply F1 32); exact rfl; exact EN; (exact fun w μc hw hse => hns w μc hw)) | ((with_reducible apply F1 35); exact rfl; exact EN; (exact fun w μc hw hse => hns w μc hw)) | ((with_reducible apply F1 33); exact rfl; exact EN; (exact fun w μc hw hse => hov w μc hw)) | ((with_reducible apply F2 36); exact rfl; exact EN; (exact fun w hw => readEvent_spec l i1 hl hi1 w _ hw); rintro v1 μ1 hle1 ⟨ln, lok, rfl, hln⟩) | refine KI ?_ | refine NB fun b => ?_ | ((refine KB ?_ ?_ <;> intro hp)) | refine KG ?_ | fail)
  all_goals first | (exfalso; first | omega | contradiction | (exact absurd ‹_› ‹¬ _›)) | skip
  all_goals exact ret_m2 rfl (rv_agg (vs := [.string ⟨#[]⟩, .int .i64 0, .int .i64 0, .string ⟨#[]⟩, .int .i64 0, .int .i64 0, .int .i64 0, .string ⟨#[]⟩, .string ⟨#[]⟩]) 1 rfl rfl rfl rfl rfl (by repeat first | exact lc_nil | refine lc_cons rfl ?_)) (rv_tmp rfl) (fun μ' _ _ => ⟨zeroLn, false, rfl, by rw [hev]⟩)
end Go.Proofs.YtmihpkdhfomcgaaGreatDoor
namespace Go.Proofs.YtmihpkdhfomcgaaGreatDoor
open Go.RowKit Go.Vcg Ou
def stW : Ou.St → List UInt8
  | .start => []
  | .error => [101, 114, 114, 111, 114]
  | .ends => [101, 110, 100, 115]
  | .steps => [115, 116, 101, 112, 115]
  | .made => [109, 97, 100, 101]
  | .out => [111, 117, 116]
  | .event => [101, 118, 101, 110, 116]
def fitB (a g : List UInt8) : Bool := if a = [] then decide (g = [101, 114, 114, 111, 114]) || decide (g = [101, 110, 100, 115]) else if a = [101, 110, 100, 115] then decide (g = [115, 116, 101, 112, 115]) else if a = [115, 116, 101, 112, 115] then decide (g = [109, 97, 100, 101]) else if a = [109, 97, 100, 101] ∨ a = [111, 117, 116] then decide (g = [111, 117, 116]) || decide (g = [101, 118, 101, 110, 116]) else decide (a = [101, 118, 101, 110, 116]) && decide (g = [101, 118, 101, 110, 116])
theorem fit_eq (st : Ou.St) (x : LineR) : fitB (stW st) (lnOf x).word = fitsR st x := by
  cases st <;> cases x <;> rfl
attribute [local irreducible] G GC GQ GA GAop Calls IntKind.wrap Int.decLt Int.decLe
theorem fits_spec57 (a g : List UInt8) (w : World) (μ : Mem) (hμ : MOk μ w) :
    Calls Tryz.prog 12 #[.string (ofB a), .string (ofB g)] w fun en w' => en = .returned (.bool (fitB a g)) ∧ Below w.heap.size w w' := by
  refine call_intro (args := [.string (ofB a), .string (ofB g)]) Tryz.func12 rfl Tryz.ntmps12 (by simp) hμ ?_
  by_cases ha_nil : a = []
  · have za_nil : ofB a = ⟨#[]⟩ := by rw [ha_nil]; rfl
    by_cases hg_error : g = [101, 114, 114, 111, 114]
    · have zg_error : ofB g = ⟨#[101, 114, 114, 111, 114]⟩ := by rw [hg_error]; rfl
      have e : fitB a g = true := by unfold fitB; rw [ha_nil, hg_error]; rfl
      rw [e]
      repeat' (first | refine KK ?_ | ((refine KB ?_ ?_ <;> intro hp)) | refine KG ?_ | fail)
      all_goals first | (exfalso; first | omega | contradiction | (exact absurd ‹_› ‹¬ _›)) | exact ret_s rfl rfl rfl | (refine ret_s rfl rfl ?_; first | (congr 1; simp [*]; done) | (simp_all; done))
    by_cases hg_ends : g = [101, 110, 100, 115]
    · have zg_ends : ofB g = ⟨#[101, 110, 100, 115]⟩ := by rw [hg_ends]; rfl
      have zg_error : ¬ ofB g = ⟨#[101, 114, 114, 111, 114]⟩ := fun h => hg_error (ofB_inj (b := [101, 114, 114, 111, 114]) h)
      have e : fitB a g = true := by unfold fitB; rw [ha_nil, hg_ends]; rfl
      rw [e]
      repeat' (first | refine KK ?_ | ((refine KB ?_ ?_ <;> intro hp)) | refine KG ?_ | fail)
      all_goals first | (exfalso; first | omega | contradiction | (exact absurd ‹_› ‹¬ _›)) | exact ret_s rfl rfl rfl | (refine ret_s rfl rfl ?_; first | (congr 1; simp [*]; done) | (simp_all; done))
    have zg_error : ¬ ofB g = ⟨#[101, 114, 114, 111, 114]⟩ := fun h => hg_error (ofB_inj (b := [101, 114, 114, 111, 114]) h)
    have zg_ends : ¬ ofB g = ⟨#[101, 110, 100, 115]⟩ := fun h => hg_ends (ofB_inj (b := [101, 110, 100, 115]) h)
    have e : fitB a g = false := by unfold fitB; rw [ha_nil]; simp [hg_error, hg_ends]
    rw [e]
    repeat' (first | refine KK ?_ | ((refine KB ?_ ?_ <;> intro hp)) | refine KG ?_ | fail)
    all_goals first | (exfalso; first | omega | contradiction | (exact absurd ‹_› ‹¬ _›)) | exact ret_s rfl rfl rfl | (refine ret_s rfl rfl ?_; first | (congr 1; simp [*]; done) | (simp_all; done))
  by_cases ha_ends : a = [101, 110, 100, 115]
  · have za_ends : ofB a = ⟨#[101, 110, 100, 115]⟩ := by rw [ha_ends]; rfl
    have za_nil : ¬ ofB a = ⟨#[]⟩ := fun h => ha_nil (ofB_inj (b := []) h)
    by_cases hg_steps : g = [115, 116, 101, 112, 115]
    · have zg_steps : ofB g = ⟨#[115, 116, 101, 112, 115]⟩ := by rw [hg_steps]; rfl
      have e : fitB a g = true := by unfold fitB; rw [ha_ends, hg_steps]; rfl
      rw [e]
      repeat' (first | refine KK ?_ | ((refine KB ?_ ?_ <;> intro hp)) | refine KG ?_ | fail)
      all_goals first | (exfalso; first | omega | contradiction | (exact absurd ‹_› ‹¬ _›)) | exact ret_s rfl rfl rfl | (refine ret_s rfl rfl ?_; first | (congr 1; simp [*]; done) | (simp_all; done))
    have zg_steps : ¬ ofB g = ⟨#[115, 116, 101, 112, 115]⟩ := fun h => hg_steps (ofB_inj (b := [115, 116, 101, 112, 115]) h)
    have e : fitB a g = false := by unfold fitB; rw [ha_ends]; simp [hg_steps]
    rw [e]
    repeat' (first | refine KK ?_ | ((refine KB ?_ ?_ <;> intro hp)) | refine KG ?_ | fail)
    all_goals first | (exfalso; first | omega | contradiction | (exact absurd ‹_› ‹¬ _›)) | exact ret_s rfl rfl rfl | (refine ret_s rfl rfl ?_; first | (congr 1; simp [*]; done) | (simp_all; done))
  by_cases ha_steps : a = [115, 116, 101, 112, 115]
  · have za_steps : ofB a = ⟨#[115, 116, 101, 112, 115]⟩ := by rw [ha_steps]; rfl
    have za_nil : ¬ ofB a = ⟨#[]⟩ := fun h => ha_nil (ofB_inj (b := []) h)
    have za_ends : ¬ ofB a = ⟨#[101, 110, 100, 115]⟩ := fun h => ha_ends (ofB_inj (b := [101, 110, 100, 115]) h)
    by_cases hg_made : g = [109, 97, 100, 101]
    · have zg_made : ofB g = ⟨#[109, 97, 100, 101]⟩ := by rw [hg_made]; rfl
      have e : fitB a g = true := by unfold fitB; rw [ha_steps, hg_made]; rfl
      rw [e]
      repeat' (first | refine KK ?_ | ((refine KB ?_ ?_ <;> intro hp)) | refine KG ?_ | fail)
      all_goals first | (exfalso; first | omega | contradiction | (exact absurd ‹_› ‹¬ _›)) | exact ret_s rfl rfl rfl | (refine ret_s rfl rfl ?_; first | (congr 1; simp [*]; done) | (simp_all; done))
    have zg_made : ¬ ofB g = ⟨#[109, 97, 100, 101]⟩ := fun h => hg_made (ofB_inj (b := [109, 97, 100, 101]) h)
    have e : fitB a g = false := by unfold fitB; rw [ha_steps]; simp [hg_made]
    rw [e]
    repeat' (first | refine KK ?_ | ((refine KB ?_ ?_ <;> intro hp)) | refine KG ?_ | fail)
    all_goals first | (exfalso; first | omega | contradiction | (exact absurd ‹_› ‹¬ _›)) | exact ret_s rfl rfl rfl | (refine ret_s rfl rfl ?_; first | (congr 1; simp [*]; done) | (simp_all; done))
  by_cases ha_made : a = [109, 97, 100, 101]
  · have za_made : ofB a = ⟨#[109, 97, 100, 101]⟩ := by rw [ha_made]; rfl
    have za_nil : ¬ ofB a = ⟨#[]⟩ := fun h => ha_nil (ofB_inj (b := []) h)
    have za_ends : ¬ ofB a = ⟨#[101, 110, 100, 115]⟩ := fun h => ha_ends (ofB_inj (b := [101, 110, 100, 115]) h)
    have za_steps : ¬ ofB a = ⟨#[115, 116, 101, 112, 115]⟩ := fun h => ha_steps (ofB_inj (b := [115, 116, 101, 112, 115]) h)
    by_cases hg_out : g = [111, 117, 116]
    · have zg_out : ofB g = ⟨#[111, 117, 116]⟩ := by rw [hg_out]; rfl
      have e : fitB a g = true := by unfold fitB; rw [ha_made, hg_out]; rfl
      rw [e]
      repeat' (first | refine KK ?_ | ((refine KB ?_ ?_ <;> intro hp)) | refine KG ?_ | fail)
      all_goals first | (exfalso; first | omega | contradiction | (exact absurd ‹_› ‹¬ _›)) | exact ret_s rfl rfl rfl | (refine ret_s rfl rfl ?_; first | (congr 1; simp [*]; done) | (simp_all; done))
    by_cases hg_event : g = [101, 118, 101, 110, 116]
    · have zg_event : ofB g = ⟨#[101, 118, 101, 110, 116]⟩ := by rw [hg_event]; rfl
      have zg_out : ¬ ofB g = ⟨#[111, 117, 116]⟩ := fun h => hg_out (ofB_inj (b := [111, 117, 116]) h)
      have e : fitB a g = true := by unfold fitB; rw [ha_made, hg_event]; rfl
      rw [e]
      repeat' (first | refine KK ?_ | ((refine KB ?_ ?_ <;> intro hp)) | refine KG ?_ | fail)
      all_goals first | (exfalso; first | omega | contradiction | (exact absurd ‹_› ‹¬ _›)) | exact ret_s rfl rfl rfl | (refine ret_s rfl rfl ?_; first | (congr 1; simp [*]; done) | (simp_all; done))
    have zg_out : ¬ ofB g = ⟨#[111, 117, 116]⟩ := fun h => hg_out (ofB_inj (b := [111, 117, 116]) h)
    have zg_event : ¬ ofB g = ⟨#[101, 118, 101, 110, 116]⟩ := fun h => hg_event (ofB_inj (b := [101, 118, 101, 110, 116]) h)
    have e : fitB a g = false := by unfold fitB; rw [ha_made]; simp [hg_out, hg_event]
    rw [e]
    repeat' (first | refine KK ?_ | ((refine KB ?_ ?_ <;> intro hp)) | refine KG ?_ | fail)
    all_goals first | (exfalso; first | omega | contradiction | (exact absurd ‹_› ‹¬ _›)) | exact ret_s rfl rfl rfl | (refine ret_s rfl rfl ?_; first | (congr 1; simp [*]; done) | (simp_all; done))
  by_cases ha_out : a = [111, 117, 116]
  · have za_out : ofB a = ⟨#[111, 117, 116]⟩ := by rw [ha_out]; rfl
    have za_nil : ¬ ofB a = ⟨#[]⟩ := fun h => ha_nil (ofB_inj (b := []) h)
    have za_ends : ¬ ofB a = ⟨#[101, 110, 100, 115]⟩ := fun h => ha_ends (ofB_inj (b := [101, 110, 100, 115]) h)
    have za_steps : ¬ ofB a = ⟨#[115, 116, 101, 112, 115]⟩ := fun h => ha_steps (ofB_inj (b := [115, 116, 101, 112, 115]) h)
    have za_made : ¬ ofB a = ⟨#[109, 97, 100, 101]⟩ := fun h => ha_made (ofB_inj (b := [109, 97, 100, 101]) h)
    by_cases hg_out : g = [111, 117, 116]
    · have zg_out : ofB g = ⟨#[111, 117, 116]⟩ := by rw [hg_out]; rfl
      have e : fitB a g = true := by unfold fitB; rw [ha_out, hg_out]; rfl
      rw [e]
      repeat' (first | refine KK ?_ | ((refine KB ?_ ?_ <;> intro hp)) | refine KG ?_ | fail)
      all_goals first | (exfalso; first | omega | contradiction | (exact absurd ‹_› ‹¬ _›)) | exact ret_s rfl rfl rfl | (refine ret_s rfl rfl ?_; first | (congr 1; simp [*]; done) | (simp_all; done))
    by_cases hg_event : g = [101, 118, 101, 110, 116]
    · have zg_event : ofB g = ⟨#[101, 118, 101, 110, 116]⟩ := by rw [hg_event]; rfl
      have zg_out : ¬ ofB g = ⟨#[111, 117, 116]⟩ := fun h => hg_out (ofB_inj (b := [111, 117, 116]) h)
      have e : fitB a g = true := by unfold fitB; rw [ha_out, hg_event]; rfl
      rw [e]
      repeat' (first | refine KK ?_ | ((refine KB ?_ ?_ <;> intro hp)) | refine KG ?_ | fail)
      all_goals first | (exfalso; first | omega | contradiction | (exact absurd ‹_› ‹¬ _›)) | exact ret_s rfl rfl rfl | (refine ret_s rfl rfl ?_; first | (congr 1; simp [*]; done) | (simp_all; done))
    have zg_out : ¬ ofB g = ⟨#[111, 117, 116]⟩ := fun h => hg_out (ofB_inj (b := [111, 117, 116]) h)
    have zg_event : ¬ ofB g = ⟨#[101, 118, 101, 110, 116]⟩ := fun h => hg_event (ofB_inj (b := [101, 118, 101, 110, 116]) h)
    have e : fitB a g = false := by unfold fitB; rw [ha_out]; simp [hg_out, hg_event]
    rw [e]
    repeat' (first | refine KK ?_ | ((refine KB ?_ ?_ <;> intro hp)) | refine KG ?_ | fail)
    all_goals first | (exfalso; first | omega | contradiction | (exact absurd ‹_› ‹¬ _›)) | exact ret_s rfl rfl rfl | (refine ret_s rfl rfl ?_; first | (congr 1; simp [*]; done) | (simp_all; done))
  by_cases ha_event : a = [101, 118, 101, 110, 116]
  · have za_event : ofB a = ⟨#[101, 118, 101, 110, 116]⟩ := by rw [ha_event]; rfl
    have za_nil : ¬ ofB a = ⟨#[]⟩ := fun h => ha_nil (ofB_inj (b := []) h)
    have za_ends : ¬ ofB a = ⟨#[101, 110, 100, 115]⟩ := fun h => ha_ends (ofB_inj (b := [101, 110, 100, 115]) h)
    have za_steps : ¬ ofB a = ⟨#[115, 116, 101, 112, 115]⟩ := fun h => ha_steps (ofB_inj (b := [115, 116, 101, 112, 115]) h)
    have za_made : ¬ ofB a = ⟨#[109, 97, 100, 101]⟩ := fun h => ha_made (ofB_inj (b := [109, 97, 100, 101]) h)
    have za_out : ¬ ofB a = ⟨#[111, 117, 116]⟩ := fun h => ha_out (ofB_inj (b := [111, 117, 116]) h)
    by_cases hg_event : g = [101, 118, 101, 110, 116]
    · have zg_event : ofB g = ⟨#[101, 118, 101, 110, 116]⟩ := by rw [hg_event]; rfl
      have e : fitB a g = true := by unfold fitB; rw [ha_event, hg_event]; rfl
      rw [e]
      repeat' (first | refine KK ?_ | ((refine KB ?_ ?_ <;> intro hp)) | refine KG ?_ | fail)
      all_goals first | (exfalso; first | omega | contradiction | (exact absurd ‹_› ‹¬ _›)) | exact ret_s rfl rfl rfl | (refine ret_s rfl rfl ?_; first | (congr 1; simp [*]; done) | (simp_all; done))
    have zg_event : ¬ ofB g = ⟨#[101, 118, 101, 110, 116]⟩ := fun h => hg_event (ofB_inj (b := [101, 118, 101, 110, 116]) h)
    have e : fitB a g = false := by unfold fitB; rw [ha_event]; simp [hg_event]
    rw [e]
    repeat' (first | refine KK ?_ | ((refine KB ?_ ?_ <;> intro hp)) | refine KG ?_ | fail)
    all_goals first | (exfalso; first | omega | contradiction | (exact absurd ‹_› ‹¬ _›)) | exact ret_s rfl rfl rfl | (refine ret_s rfl rfl ?_; first | (congr 1; simp [*]; done) | (simp_all; done))
  have za_nil : ¬ ofB a = ⟨#[]⟩ := fun h => ha_nil (ofB_inj (b := []) h)
  have za_ends : ¬ ofB a = ⟨#[101, 110, 100, 115]⟩ := fun h => ha_ends (ofB_inj (b := [101, 110, 100, 115]) h)
  have za_steps : ¬ ofB a = ⟨#[115, 116, 101, 112, 115]⟩ := fun h => ha_steps (ofB_inj (b := [115, 116, 101, 112, 115]) h)
  have za_made : ¬ ofB a = ⟨#[109, 97, 100, 101]⟩ := fun h => ha_made (ofB_inj (b := [109, 97, 100, 101]) h)
  have za_out : ¬ ofB a = ⟨#[111, 117, 116]⟩ := fun h => ha_out (ofB_inj (b := [111, 117, 116]) h)
  have za_event : ¬ ofB a = ⟨#[101, 118, 101, 110, 116]⟩ := fun h => ha_event (ofB_inj (b := [101, 118, 101, 110, 116]) h)
  have e : fitB a g = false := by
    unfold fitB
    rw [if_neg ha_nil, if_neg ha_ends, if_neg ha_steps, if_neg (fun h => h.elim ha_made ha_out), decide_eq_false ha_event]
    rfl
  rw [e]
  repeat' (first | refine KK ?_ | ((refine KB ?_ ?_ <;> intro hp)) | refine KG ?_ | fail)
  all_goals first | (exfalso; first | omega | contradiction | (exact absurd ‹_› ‹¬ _›)) | exact ret_s rfl rfl rfl | (refine ret_s rfl rfl ?_; first | (congr 1; simp [*]; done) | (simp_all; done))
end Go.Proofs.YtmihpkdhfomcgaaGreatDoor
