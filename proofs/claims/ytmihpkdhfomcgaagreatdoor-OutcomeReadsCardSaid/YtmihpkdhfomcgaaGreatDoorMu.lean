/- Package outcome: the reader's keys that are refused. (and what leans on it). No statement of the seat is proved here. -/
import Derived.Test.YtmihpkdhfomcgaaGreatDoorMt
import Derived.Test.YtmihpkdhfomcgaaGreatDoorSt
set_option maxRecDepth 20000
set_option maxHeartbeats 2000000
namespace Go.Proofs.YtmihpkdhfomcgaaGreatDoor
open Go.RowKit Go.Vcg Ou
theorem keyOf_none {w l : List UInt8} (h : Ou.keyOf w l = none) :
    (w = [105, 110, 100, 101, 120] ∧ (Ou.cutB 32 l = none ∨ ∃ d u, Ou.cutB 32 l = some (d, u) ∧ numB d = none)) ∨ (w = [116, 101, 120, 116] ∧ (quotedB l = none ∨ ∃ t u, quotedB l = some (t, u) ∧ ¬ u.head? = some 32)) ∨
    (w = [115, 121, 109, 98, 111, 108] ∧ (Ou.cutB 32 l = none ∨ ∃ d u, Ou.cutB 32 l = some (d, u) ∧ numB d = none)) ∨ (¬ w = [105, 110, 100, 101, 120] ∧ ¬ w = [116, 101, 120, 116] ∧ ¬ w = [115, 121, 109, 98, 111, 108]) := by
  unfold Ou.keyOf at h
  split at h
  · rename_i hx
    refine .inl ⟨hx, ?_⟩
    split at h
    · rename_i hc; exact .inl hc
    · rename_i d u hc
      refine .inr ⟨d, u, hc, ?_⟩
      cases hn : numB d with
      | none => rfl
      | some n => rw [hn] at h; cases h
  rename_i n1
  split at h
  · rename_i hx
    refine .inr (.inl ⟨hx, ?_⟩)
    cases hq : quotedB l with
    | none => exact .inl rfl
    | some p =>
      obtain ⟨t, u⟩ := p
      refine .inr ⟨t, u, rfl, fun hu => ?_⟩
      cases u with
      | nil => cases hu
      | cons c u =>
        cases hu
        rw [hq] at h
        dsimp only at h
        rw [if_pos rfl] at h
        cases h
  rename_i n2
  split at h
  · rename_i hx
    refine .inr (.inr (.inl ⟨hx, ?_⟩))
    split at h
    · rename_i hc; exact .inl hc
    · rename_i d u hc
      refine .inr ⟨d, u, hc, ?_⟩
      cases hn : numB d with
      | none => rfl
      | some n => rw [hn] at h; cases h
  rename_i n3
  exact .inr (.inr (.inr ⟨n1, n2, n3⟩))
theorem keyOf_cases {w u1 u : List UInt8} {k : KeyP} (h : Ou.keyOf w u1 = some (k, u)) :
    (w = [105, 110, 100, 101, 120] ∧ ∃ d n, Ou.cutB 32 u1 = some (d, u) ∧ numB d = some n ∧ k = ⟨0, n, ⟨#[]⟩⟩) ∨ (w = [116, 101, 120, 116] ∧ ∃ t, quotedB u1 = some (t, 32 :: u) ∧ k = ⟨1, 0, ofB t⟩) ∨
     (w = [115, 121, 109, 98, 111, 108] ∧ ∃ d n, Ou.cutB 32 u1 = some (d, u) ∧ numB d = some n ∧ k = ⟨2, n, ⟨#[]⟩⟩) := by
  have hc : Ou.cutB 32 (w ++ 32 :: u1) = none ∨ ∃ a b, Ou.cutB 32 (w ++ 32 :: u1) = some (a, b) := by
    cases Ou.cutB 32 (w ++ 32 :: u1) with
    | none => exact .inl rfl
    | some p => exact .inr ⟨p.1, p.2, rfl⟩
  have hw : Fr 32 w := by
    unfold Ou.keyOf at h
    split at h
    · rename_i hx; rw [hx]; unfold Fr; decide
    split at h
    · rename_i hx; rw [hx]; unfold Fr; decide
    split at h
    · rename_i hx; rw [hx]; unfold Fr; decide
    · cases h
  have hk : keyRd (fun _ => true) (w ++ 32 :: u1) = some (k, u) := by
    unfold keyRd
    rw [cutB_app hw]
    dsimp only
    rw [h]
    rfl
  obtain ⟨w', u1', g1, _, g3⟩ := key_cases hk
  rw [cutB_app hw] at g1
  cases g1
  exact g3
attribute [local irreducible] G GC GQ GA GAop Calls IntKind.wrap Int.decLt Int.decLe idxF
theorem key_err (rb : Nat) (s rest : List UInt8) (line : Int) (h : keyRd keyR rest = none) (hs : s.length ≤ 100000) (hr : rest.length ≤ 100000) (hl : 0 ≤ line ∧ line ≤ 100000) (w : World) (μ : Mem) (hμ : MOk μ w) (hm : MaxOk μ) (hT : TabOk μ) (hO : Go.Vcg.Own μ (rdB rb (s, line, rest)) w) :
    Calls Tryz.prog 50 #[.pointer (some ⟨rb, 0, none⟩)] w (RdE (idsOf (rdB rb (s, line, rest))) w μ rb line 7) := by
  have hcnt := ids_count hO.diff
  refine call_introM (args := [.pointer (some ⟨rb, 0, none⟩)]) Tryz.func50 rfl Tryz.ntmps50 (by simp) hμ hO ?_
  show GC _ _ _ _ _ _ [.inl ⟨rb, 35, 3, [(0, .string (ofB s)), (1, .int .i64 line), (2, .string (ofB rest))]⟩]
  repeat' (first | ((with_reducible show GC _ _ (Code.seq (Code.region 1 _ _) _) _ _ _ _); (apply gc_stop)) | refine KK ?_ | refine NB fun b => ?_ | ((refine KB ?_ ?_ <;> intro hp)) | refine KG ?_ | fail)
  obtain ⟨bq, hbq⟩ : ∃ x, x = b := ⟨_, rfl⟩
  rw [← hbq]
  clear hbq
  refine gcs ?_
  repeat' (first | ((with_reducible show GC _ _ (Code.seq (Code.region 2 _ _) _) _ _ _ _); (apply gc_stop)) | refine KK ?_ | refine NB fun b => ?_ | ((refine KB ?_ ?_ <;> intro hp)) | refine KG ?_ | fail)
  obtain ⟨bk, hbk⟩ : ∃ x, x = b := ⟨_, rfl⟩
  rw [← hbk]
  clear hbk
  refine gcs ?_
  cases hc : Ou.cutB 32 rest with
  | none =>
    repeat' (first | ((with_reducible (first | apply gq_then_panic | apply gq_block_panic))) | refine KO ?_ | (refine CF 22 ?_; (first | ((with_reducible apply g_enter_panB 1); exact rfl; ((with_reducible apply e_call1); kernel_rfl; exact rfl); exact rfl; (first | exact fun w hw hO => word_err rb s rest line hc hs hr hl w _ hw hm hO); (rintro μ2 i2 hle2); (dsimp only [List.cons_append, List.nil_append])) | ((with_reducible apply g_pull_1); (with_reducible apply g_enter_panB 1); exact rfl; ((with_reducible apply e_call1); kernel_rfl; exact rfl); exact rfl; (first | exact fun w hw hO => word_err rb s rest line hc hs hr hl w _ hw hm hO); (rintro μ2 i2 hle2); (dsimp only [List.cons_append, List.nil_append])) | ((with_reducible apply g_pull_2); (with_reducible apply g_enter_panB 1); exact rfl; ((with_reducible apply e_call1); kernel_rfl; exact rfl); exact rfl; (first | exact fun w hw hO => word_err rb s rest line hc hs hr hl w _ hw hm hO); (rintro μ2 i2 hle2); (dsimp only [List.cons_append, List.nil_append])) | ((with_reducible apply g_pull_3); (with_reducible apply g_enter_panB 1); exact rfl; ((with_reducible apply e_call1); kernel_rfl; exact rfl); exact rfl; (first | exact fun w hw hO => word_err rb s rest line hc hs hr hl w _ hw hm hO); (rintro μ2 i2 hle2); (dsimp only [List.cons_append, List.nil_append])))) | refine KI ?_ | refine NB fun b => ?_ | ((refine KB ?_ ?_ <;> intro hp)) | refine KG ?_ | fail)
    refine gq_sel (l' := []) (L' := rdB rb (i2.1, line, i2.2)) PU PS ?_
    exact gq_panB (Ls := fun i : List UInt8 × List UInt8 => rdB rb (i.1, line, i.2)) 1 (i2.1, i2.2) hcnt rfl rfl
  | some p =>
    obtain ⟨x, u1⟩ := p
    have hl1 := len_cut1 hc
    have hr1 : u1.length ≤ 100000 := by omega
    unfold keyRd at h
    rw [hc] at h
    dsimp only at h
    cases hk : Ou.keyOf x u1 with
    | none =>
      rcases keyOf_none hk with ⟨hx, hc2 | ⟨d, u, hc2, hn⟩⟩ | ⟨hx, hq | ⟨t, u, hq, hne⟩⟩ | ⟨hx, hc2 | ⟨d, u, hc2, hn⟩⟩ | ⟨n1, n2, n3⟩
      · subst hx
        repeat' (first | ((with_reducible (first | apply gq_then_panic | apply gq_block_panic))) | refine KO ?_ | (refine CF 22 ?_; (first | ((with_reducible apply g_enter_bor 1); exact rfl; exact rfl; exact rfl; ((with_reducible apply e_call1); kernel_rfl; exact rfl); exact rfl; (first | exact fun w hw hO => word_ok rb s rest line hc hs hr hl w _ hw hm hO); (rintro v2 μ2 ⟨⟩ hle2 rfl); (dsimp only [List.cons_append, List.nil_append]); refine g_forget hcnt hle2 rfl ?_) | ((with_reducible apply g_pull_1); (with_reducible apply g_enter_bor 1); exact rfl; exact rfl; exact rfl; ((with_reducible apply e_call1); kernel_rfl; exact rfl); exact rfl; (first | exact fun w hw hO => word_ok rb s rest line hc hs hr hl w _ hw hm hO); (rintro v2 μ2 ⟨⟩ hle2 rfl); (dsimp only [List.cons_append, List.nil_append]); refine g_forget hcnt hle2 rfl ?_) | ((with_reducible apply g_pull_2); (with_reducible apply g_enter_bor 1); exact rfl; exact rfl; exact rfl; ((with_reducible apply e_call1); kernel_rfl; exact rfl); exact rfl; (first | exact fun w hw hO => word_ok rb s rest line hc hs hr hl w _ hw hm hO); (rintro v2 μ2 ⟨⟩ hle2 rfl); (dsimp only [List.cons_append, List.nil_append]); refine g_forget hcnt hle2 rfl ?_) | ((with_reducible apply g_pull_3); (with_reducible apply g_enter_bor 1); exact rfl; exact rfl; exact rfl; ((with_reducible apply e_call1); kernel_rfl; exact rfl); exact rfl; (first | exact fun w hw hO => word_ok rb s rest line hc hs hr hl w _ hw hm hO); (rintro v2 μ2 ⟨⟩ hle2 rfl); (dsimp only [List.cons_append, List.nil_append]); refine g_forget hcnt hle2 rfl ?_))) | (refine CF 22 ?_; (first | ((with_reducible apply g_enter_panB 1); exact rfl; ((with_reducible apply e_call1); kernel_rfl; exact rfl); exact rfl; (first | exact fun w hw hO => word_err rb s u1 line hc2 hs hr1 hl w _ hw hm hO); (rintro μ2 i2 hle2); (dsimp only [List.cons_append, List.nil_append])) | ((with_reducible apply g_pull_1); (with_reducible apply g_enter_panB 1); exact rfl; ((with_reducible apply e_call1); kernel_rfl; exact rfl); exact rfl; (first | exact fun w hw hO => word_err rb s u1 line hc2 hs hr1 hl w _ hw hm hO); (rintro μ2 i2 hle2); (dsimp only [List.cons_append, List.nil_append])) | ((with_reducible apply g_pull_2); (with_reducible apply g_enter_panB 1); exact rfl; ((with_reducible apply e_call1); kernel_rfl; exact rfl); exact rfl; (first | exact fun w hw hO => word_err rb s u1 line hc2 hs hr1 hl w _ hw hm hO); (rintro μ2 i2 hle2); (dsimp only [List.cons_append, List.nil_append])) | ((with_reducible apply g_pull_3); (with_reducible apply g_enter_panB 1); exact rfl; ((with_reducible apply e_call1); kernel_rfl; exact rfl); exact rfl; (first | exact fun w hw hO => word_err rb s u1 line hc2 hs hr1 hl w _ hw hm hO); (rintro μ2 i2 hle2); (dsimp only [List.cons_append, List.nil_append])))) | refine KI ?_ | refine NB fun b => ?_ | ((refine KB ?_ ?_ <;> intro hp)) | refine KG ?_ | fail)
        refine gq_sel (l' := []) (L' := rdB rb (i2.1, line, i2.2)) PU PS ?_
        exact gq_panB (Ls := fun i : List UInt8 × List UInt8 => rdB rb (i.1, line, i.2)) 1 (i2.1, i2.2) hcnt rfl rfl
      · have hl2 := len_cut1 hc2
        subst hx
        repeat' (first | ((with_reducible (first | apply gq_then_panic | apply gq_block_panic))) | refine KO ?_ | (refine CF 22 ?_; (first | ((with_reducible apply g_enter_bor 1); exact rfl; exact rfl; exact rfl; ((with_reducible apply e_call1); kernel_rfl; exact rfl); exact rfl; (first | exact fun w hw hO => word_ok rb s rest line hc hs hr hl w _ hw hm hO | exact fun w hw hO => word_ok rb s u1 line hc2 hs hr1 hl w _ hw hm hO); (rintro v2 μ2 ⟨⟩ hle2 rfl); (dsimp only [List.cons_append, List.nil_append]); refine g_forget hcnt hle2 rfl ?_) | ((with_reducible apply g_pull_1); (with_reducible apply g_enter_bor 1); exact rfl; exact rfl; exact rfl; ((with_reducible apply e_call1); kernel_rfl; exact rfl); exact rfl; (first | exact fun w hw hO => word_ok rb s rest line hc hs hr hl w _ hw hm hO | exact fun w hw hO => word_ok rb s u1 line hc2 hs hr1 hl w _ hw hm hO); (rintro v2 μ2 ⟨⟩ hle2 rfl); (dsimp only [List.cons_append, List.nil_append]); refine g_forget hcnt hle2 rfl ?_) | ((with_reducible apply g_pull_2); (with_reducible apply g_enter_bor 1); exact rfl; exact rfl; exact rfl; ((with_reducible apply e_call1); kernel_rfl; exact rfl); exact rfl; (first | exact fun w hw hO => word_ok rb s rest line hc hs hr hl w _ hw hm hO | exact fun w hw hO => word_ok rb s u1 line hc2 hs hr1 hl w _ hw hm hO); (rintro v2 μ2 ⟨⟩ hle2 rfl); (dsimp only [List.cons_append, List.nil_append]); refine g_forget hcnt hle2 rfl ?_) | ((with_reducible apply g_pull_3); (with_reducible apply g_enter_bor 1); exact rfl; exact rfl; exact rfl; ((with_reducible apply e_call1); kernel_rfl; exact rfl); exact rfl; (first | exact fun w hw hO => word_ok rb s rest line hc hs hr hl w _ hw hm hO | exact fun w hw hO => word_ok rb s u1 line hc2 hs hr1 hl w _ hw hm hO); (rintro v2 μ2 ⟨⟩ hle2 rfl); (dsimp only [List.cons_append, List.nil_append]); refine g_forget hcnt hle2 rfl ?_))) | (refine CF 27 ?_; (with_reducible apply g_enter_pan 0); exact rfl; ((with_reducible apply e_call1); kernel_rfl; exact rfl); exact rfl; (exact fun w hw _ => number_no hn (by omega) w _ hw hT)) | refine KI ?_ | refine NB fun b => ?_ | ((refine KB ?_ ?_ <;> intro hp)) | refine KG ?_ | fail)
        refine gq_sel (l' := []) (L' := rdB rb (s, line, u)) PU PS ?_
        exact gq_panB (Ls := fun i : List UInt8 × List UInt8 => rdB rb (i.1, line, i.2)) 1 (s, u) hcnt rfl rfl
      · subst hx
        repeat' (first | ((with_reducible (first | apply gq_then_panic | apply gq_block_panic))) | refine KO ?_ | (refine CF 22 ?_; (first | ((with_reducible apply g_enter_bor 1); exact rfl; exact rfl; exact rfl; ((with_reducible apply e_call1); kernel_rfl; exact rfl); exact rfl; (first | exact fun w hw hO => word_ok rb s rest line hc hs hr hl w _ hw hm hO); (rintro v2 μ2 ⟨⟩ hle2 rfl); (dsimp only [List.cons_append, List.nil_append]); refine g_forget hcnt hle2 rfl ?_) | ((with_reducible apply g_pull_1); (with_reducible apply g_enter_bor 1); exact rfl; exact rfl; exact rfl; ((with_reducible apply e_call1); kernel_rfl; exact rfl); exact rfl; (first | exact fun w hw hO => word_ok rb s rest line hc hs hr hl w _ hw hm hO); (rintro v2 μ2 ⟨⟩ hle2 rfl); (dsimp only [List.cons_append, List.nil_append]); refine g_forget hcnt hle2 rfl ?_) | ((with_reducible apply g_pull_2); (with_reducible apply g_enter_bor 1); exact rfl; exact rfl; exact rfl; ((with_reducible apply e_call1); kernel_rfl; exact rfl); exact rfl; (first | exact fun w hw hO => word_ok rb s rest line hc hs hr hl w _ hw hm hO); (rintro v2 μ2 ⟨⟩ hle2 rfl); (dsimp only [List.cons_append, List.nil_append]); refine g_forget hcnt hle2 rfl ?_) | ((with_reducible apply g_pull_3); (with_reducible apply g_enter_bor 1); exact rfl; exact rfl; exact rfl; ((with_reducible apply e_call1); kernel_rfl; exact rfl); exact rfl; (first | exact fun w hw hO => word_ok rb s rest line hc hs hr hl w _ hw hm hO); (rintro v2 μ2 ⟨⟩ hle2 rfl); (dsimp only [List.cons_append, List.nil_append]); refine g_forget hcnt hle2 rfl ?_))) | (refine CF 48 ?_; (first | ((with_reducible apply g_enter_panB 1); exact rfl; ((with_reducible apply e_call1); kernel_rfl; exact rfl); exact rfl; (first | exact fun w hw hO => quoted_err rb s u1 line hq hs hr1 hl w _ hw hm hO); (rintro μ2 i2 hle2); (dsimp only [List.cons_append, List.nil_append])) | ((with_reducible apply g_pull_1); (with_reducible apply g_enter_panB 1); exact rfl; ((with_reducible apply e_call1); kernel_rfl; exact rfl); exact rfl; (first | exact fun w hw hO => quoted_err rb s u1 line hq hs hr1 hl w _ hw hm hO); (rintro μ2 i2 hle2); (dsimp only [List.cons_append, List.nil_append])) | ((with_reducible apply g_pull_2); (with_reducible apply g_enter_panB 1); exact rfl; ((with_reducible apply e_call1); kernel_rfl; exact rfl); exact rfl; (first | exact fun w hw hO => quoted_err rb s u1 line hq hs hr1 hl w _ hw hm hO); (rintro μ2 i2 hle2); (dsimp only [List.cons_append, List.nil_append])) | ((with_reducible apply g_pull_3); (with_reducible apply g_enter_panB 1); exact rfl; ((with_reducible apply e_call1); kernel_rfl; exact rfl); exact rfl; (first | exact fun w hw hO => quoted_err rb s u1 line hq hs hr1 hl w _ hw hm hO); (rintro μ2 i2 hle2); (dsimp only [List.cons_append, List.nil_append])))) | refine KI ?_ | refine NB fun b => ?_ | ((refine KB ?_ ?_ <;> intro hp)) | refine KG ?_ | fail)
        refine gq_sel (l' := []) (L' := rdB rb (i2.1, line, i2.2)) PU PS ?_
        exact gq_panB (Ls := fun i : List UInt8 × List UInt8 => rdB rb (i.1, line, i.2)) 1 (i2.1, i2.2) hcnt rfl rfl
      · have hl2 := len_quoted hq
        subst hx
        repeat' (first | ((with_reducible (first | apply gq_then_panic | apply gq_block_panic))) | refine KO ?_ | (refine CF 22 ?_; (first | ((with_reducible apply g_enter_bor 1); exact rfl; exact rfl; exact rfl; ((with_reducible apply e_call1); kernel_rfl; exact rfl); exact rfl; (first | exact fun w hw hO => word_ok rb s rest line hc hs hr hl w _ hw hm hO); (rintro v2 μ2 ⟨⟩ hle2 rfl); (dsimp only [List.cons_append, List.nil_append]); refine g_forget hcnt hle2 rfl ?_) | ((with_reducible apply g_pull_1); (with_reducible apply g_enter_bor 1); exact rfl; exact rfl; exact rfl; ((with_reducible apply e_call1); kernel_rfl; exact rfl); exact rfl; (first | exact fun w hw hO => word_ok rb s rest line hc hs hr hl w _ hw hm hO); (rintro v2 μ2 ⟨⟩ hle2 rfl); (dsimp only [List.cons_append, List.nil_append]); refine g_forget hcnt hle2 rfl ?_) | ((with_reducible apply g_pull_2); (with_reducible apply g_enter_bor 1); exact rfl; exact rfl; exact rfl; ((with_reducible apply e_call1); kernel_rfl; exact rfl); exact rfl; (first | exact fun w hw hO => word_ok rb s rest line hc hs hr hl w _ hw hm hO); (rintro v2 μ2 ⟨⟩ hle2 rfl); (dsimp only [List.cons_append, List.nil_append]); refine g_forget hcnt hle2 rfl ?_) | ((with_reducible apply g_pull_3); (with_reducible apply g_enter_bor 1); exact rfl; exact rfl; exact rfl; ((with_reducible apply e_call1); kernel_rfl; exact rfl); exact rfl; (first | exact fun w hw hO => word_ok rb s rest line hc hs hr hl w _ hw hm hO); (rintro v2 μ2 ⟨⟩ hle2 rfl); (dsimp only [List.cons_append, List.nil_append]); refine g_forget hcnt hle2 rfl ?_))) | (refine CF 48 ?_; (first | ((with_reducible apply g_enter_bor 1); exact rfl; exact rfl; exact rfl; ((with_reducible apply e_call1); kernel_rfl; exact rfl); exact rfl; (first | exact fun w hw hO => quoted_ok rb s u1 line hq hs hr1 hl w _ hw hm hO); (rintro v2 μ2 ⟨⟩ hle2 rfl); (dsimp only [List.cons_append, List.nil_append]); refine g_forget hcnt hle2 rfl ?_) | ((with_reducible apply g_pull_1); (with_reducible apply g_enter_bor 1); exact rfl; exact rfl; exact rfl; ((with_reducible apply e_call1); kernel_rfl; exact rfl); exact rfl; (first | exact fun w hw hO => quoted_ok rb s u1 line hq hs hr1 hl w _ hw hm hO); (rintro v2 μ2 ⟨⟩ hle2 rfl); (dsimp only [List.cons_append, List.nil_append]); refine g_forget hcnt hle2 rfl ?_) | ((with_reducible apply g_pull_2); (with_reducible apply g_enter_bor 1); exact rfl; exact rfl; exact rfl; ((with_reducible apply e_call1); kernel_rfl; exact rfl); exact rfl; (first | exact fun w hw hO => quoted_ok rb s u1 line hq hs hr1 hl w _ hw hm hO); (rintro v2 μ2 ⟨⟩ hle2 rfl); (dsimp only [List.cons_append, List.nil_append]); refine g_forget hcnt hle2 rfl ?_) | ((with_reducible apply g_pull_3); (with_reducible apply g_enter_bor 1); exact rfl; exact rfl; exact rfl; ((with_reducible apply e_call1); kernel_rfl; exact rfl); exact rfl; (first | exact fun w hw hO => quoted_ok rb s u1 line hq hs hr1 hl w _ hw hm hO); (rintro v2 μ2 ⟨⟩ hle2 rfl); (dsimp only [List.cons_append, List.nil_append]); refine g_forget hcnt hle2 rfl ?_))) | ((with_reducible apply F1 68); exact rfl; exact EN; (exact fun w μc hw hse => pre_at u (by omega) w μc hw)) | (refine CF 24 ?_; (with_reducible apply g_enter_pan 0); exact rfl; ((with_reducible apply e_call2); kernel_rfl; exact rfl; exact rfl); exact rfl; (first | (exact fun w hw _ => must_errb (decide_eq_false hne) _ w _ hw))) | refine KI ?_ | refine NB fun b => ?_ | ((refine KB ?_ ?_ <;> intro hp)) | refine KG ?_ | fail)
        refine gq_sel (l' := []) (L' := rdB rb (s, line, u)) PU PS ?_
        exact gq_panB (Ls := fun i : List UInt8 × List UInt8 => rdB rb (i.1, line, i.2)) 1 (s, u) hcnt rfl rfl
      · subst hx
        repeat' (first | ((with_reducible (first | apply gq_then_panic | apply gq_block_panic))) | refine KO ?_ | (refine CF 22 ?_; (first | ((with_reducible apply g_enter_bor 1); exact rfl; exact rfl; exact rfl; ((with_reducible apply e_call1); kernel_rfl; exact rfl); exact rfl; (first | exact fun w hw hO => word_ok rb s rest line hc hs hr hl w _ hw hm hO); (rintro v2 μ2 ⟨⟩ hle2 rfl); (dsimp only [List.cons_append, List.nil_append]); refine g_forget hcnt hle2 rfl ?_) | ((with_reducible apply g_pull_1); (with_reducible apply g_enter_bor 1); exact rfl; exact rfl; exact rfl; ((with_reducible apply e_call1); kernel_rfl; exact rfl); exact rfl; (first | exact fun w hw hO => word_ok rb s rest line hc hs hr hl w _ hw hm hO); (rintro v2 μ2 ⟨⟩ hle2 rfl); (dsimp only [List.cons_append, List.nil_append]); refine g_forget hcnt hle2 rfl ?_) | ((with_reducible apply g_pull_2); (with_reducible apply g_enter_bor 1); exact rfl; exact rfl; exact rfl; ((with_reducible apply e_call1); kernel_rfl; exact rfl); exact rfl; (first | exact fun w hw hO => word_ok rb s rest line hc hs hr hl w _ hw hm hO); (rintro v2 μ2 ⟨⟩ hle2 rfl); (dsimp only [List.cons_append, List.nil_append]); refine g_forget hcnt hle2 rfl ?_) | ((with_reducible apply g_pull_3); (with_reducible apply g_enter_bor 1); exact rfl; exact rfl; exact rfl; ((with_reducible apply e_call1); kernel_rfl; exact rfl); exact rfl; (first | exact fun w hw hO => word_ok rb s rest line hc hs hr hl w _ hw hm hO); (rintro v2 μ2 ⟨⟩ hle2 rfl); (dsimp only [List.cons_append, List.nil_append]); refine g_forget hcnt hle2 rfl ?_))) | (refine CF 22 ?_; (first | ((with_reducible apply g_enter_panB 1); exact rfl; ((with_reducible apply e_call1); kernel_rfl; exact rfl); exact rfl; (first | exact fun w hw hO => word_err rb s u1 line hc2 hs hr1 hl w _ hw hm hO); (rintro μ2 i2 hle2); (dsimp only [List.cons_append, List.nil_append])) | ((with_reducible apply g_pull_1); (with_reducible apply g_enter_panB 1); exact rfl; ((with_reducible apply e_call1); kernel_rfl; exact rfl); exact rfl; (first | exact fun w hw hO => word_err rb s u1 line hc2 hs hr1 hl w _ hw hm hO); (rintro μ2 i2 hle2); (dsimp only [List.cons_append, List.nil_append])) | ((with_reducible apply g_pull_2); (with_reducible apply g_enter_panB 1); exact rfl; ((with_reducible apply e_call1); kernel_rfl; exact rfl); exact rfl; (first | exact fun w hw hO => word_err rb s u1 line hc2 hs hr1 hl w _ hw hm hO); (rintro μ2 i2 hle2); (dsimp only [List.cons_append, List.nil_append])) | ((with_reducible apply g_pull_3); (with_reducible apply g_enter_panB 1); exact rfl; ((with_reducible apply e_call1); kernel_rfl; exact rfl); exact rfl; (first | exact fun w hw hO => word_err rb s u1 line hc2 hs hr1 hl w _ hw hm hO); (rintro μ2 i2 hle2); (dsimp only [List.cons_append, List.nil_append])))) | refine KI ?_ | refine NB fun b => ?_ | ((refine KB ?_ ?_ <;> intro hp)) | refine KG ?_ | fail)
        refine gq_sel (l' := []) (L' := rdB rb (i2.1, line, i2.2)) PU PS ?_
        exact gq_panB (Ls := fun i : List UInt8 × List UInt8 => rdB rb (i.1, line, i.2)) 1 (i2.1, i2.2) hcnt rfl rfl
      · have hl2 := len_cut1 hc2
        subst hx
        repeat' (first | ((with_reducible (first | apply gq_then_panic | apply gq_block_panic))) | refine KO ?_ | (refine CF 22 ?_; (first | ((with_reducible apply g_enter_bor 1); exact rfl; exact rfl; exact rfl; ((with_reducible apply e_call1); kernel_rfl; exact rfl); exact rfl; (first | exact fun w hw hO => word_ok rb s rest line hc hs hr hl w _ hw hm hO | exact fun w hw hO => word_ok rb s u1 line hc2 hs hr1 hl w _ hw hm hO); (rintro v2 μ2 ⟨⟩ hle2 rfl); (dsimp only [List.cons_append, List.nil_append]); refine g_forget hcnt hle2 rfl ?_) | ((with_reducible apply g_pull_1); (with_reducible apply g_enter_bor 1); exact rfl; exact rfl; exact rfl; ((with_reducible apply e_call1); kernel_rfl; exact rfl); exact rfl; (first | exact fun w hw hO => word_ok rb s rest line hc hs hr hl w _ hw hm hO | exact fun w hw hO => word_ok rb s u1 line hc2 hs hr1 hl w _ hw hm hO); (rintro v2 μ2 ⟨⟩ hle2 rfl); (dsimp only [List.cons_append, List.nil_append]); refine g_forget hcnt hle2 rfl ?_) | ((with_reducible apply g_pull_2); (with_reducible apply g_enter_bor 1); exact rfl; exact rfl; exact rfl; ((with_reducible apply e_call1); kernel_rfl; exact rfl); exact rfl; (first | exact fun w hw hO => word_ok rb s rest line hc hs hr hl w _ hw hm hO | exact fun w hw hO => word_ok rb s u1 line hc2 hs hr1 hl w _ hw hm hO); (rintro v2 μ2 ⟨⟩ hle2 rfl); (dsimp only [List.cons_append, List.nil_append]); refine g_forget hcnt hle2 rfl ?_) | ((with_reducible apply g_pull_3); (with_reducible apply g_enter_bor 1); exact rfl; exact rfl; exact rfl; ((with_reducible apply e_call1); kernel_rfl; exact rfl); exact rfl; (first | exact fun w hw hO => word_ok rb s rest line hc hs hr hl w _ hw hm hO | exact fun w hw hO => word_ok rb s u1 line hc2 hs hr1 hl w _ hw hm hO); (rintro v2 μ2 ⟨⟩ hle2 rfl); (dsimp only [List.cons_append, List.nil_append]); refine g_forget hcnt hle2 rfl ?_))) | (refine CF 27 ?_; (with_reducible apply g_enter_pan 0); exact rfl; ((with_reducible apply e_call1); kernel_rfl; exact rfl); exact rfl; (exact fun w hw _ => number_no hn (by omega) w _ hw hT)) | refine KI ?_ | refine NB fun b => ?_ | ((refine KB ?_ ?_ <;> intro hp)) | refine KG ?_ | fail)
        refine gq_sel (l' := []) (L' := rdB rb (s, line, u)) PU PS ?_
        exact gq_panB (Ls := fun i : List UInt8 × List UInt8 => rdB rb (i.1, line, i.2)) 1 (s, u) hcnt rfl rfl
      · have m1 : ¬ ofB x = ⟨#[105, 110, 100, 101, 120]⟩ := fun h => n1 (ofB_inj h)
        have m2 : ¬ ofB x = ⟨#[116, 101, 120, 116]⟩ := fun h => n2 (ofB_inj h)
        have m3 : ¬ ofB x = ⟨#[115, 121, 109, 98, 111, 108]⟩ := fun h => n3 (ofB_inj h)
        repeat' (first | ((with_reducible (first | apply gq_then_panic | apply gq_block_panic))) | refine KO ?_ | (refine CF 22 ?_; (first | ((with_reducible apply g_enter_bor 1); exact rfl; exact rfl; exact rfl; ((with_reducible apply e_call1); kernel_rfl; exact rfl); exact rfl; (first | exact fun w hw hO => word_ok rb s rest line hc hs hr hl w _ hw hm hO); (rintro v2 μ2 ⟨⟩ hle2 rfl); (dsimp only [List.cons_append, List.nil_append]); refine g_forget hcnt hle2 rfl ?_) | ((with_reducible apply g_pull_1); (with_reducible apply g_enter_bor 1); exact rfl; exact rfl; exact rfl; ((with_reducible apply e_call1); kernel_rfl; exact rfl); exact rfl; (first | exact fun w hw hO => word_ok rb s rest line hc hs hr hl w _ hw hm hO); (rintro v2 μ2 ⟨⟩ hle2 rfl); (dsimp only [List.cons_append, List.nil_append]); refine g_forget hcnt hle2 rfl ?_) | ((with_reducible apply g_pull_2); (with_reducible apply g_enter_bor 1); exact rfl; exact rfl; exact rfl; ((with_reducible apply e_call1); kernel_rfl; exact rfl); exact rfl; (first | exact fun w hw hO => word_ok rb s rest line hc hs hr hl w _ hw hm hO); (rintro v2 μ2 ⟨⟩ hle2 rfl); (dsimp only [List.cons_append, List.nil_append]); refine g_forget hcnt hle2 rfl ?_) | ((with_reducible apply g_pull_3); (with_reducible apply g_enter_bor 1); exact rfl; exact rfl; exact rfl; ((with_reducible apply e_call1); kernel_rfl; exact rfl); exact rfl; (first | exact fun w hw hO => word_ok rb s rest line hc hs hr hl w _ hw hm hO); (rintro v2 μ2 ⟨⟩ hle2 rfl); (dsimp only [List.cons_append, List.nil_append]); refine g_forget hcnt hle2 rfl ?_))) | (refine CF 24 ?_; (with_reducible apply g_enter_pan 0); exact rfl; ((with_reducible apply e_call2); kernel_rfl; exact rfl; exact rfl); exact rfl; (first | (exact fun w hw _ => must_errb rfl _ w _ hw))) | refine KI ?_ | refine NB fun b => ?_ | ((refine KB ?_ ?_ <;> intro hp)) | refine KG ?_ | fail)
        all_goals first | exact absurd ‹_› m1 | exact absurd ‹_› m2 | exact absurd ‹_› m3 | skip
        refine gq_sel (l' := []) (L' := rdB rb (s, line, u1)) PU PS ?_
        exact gq_panB (Ls := fun i : List UInt8 × List UInt8 => rdB rb (i.1, line, i.2)) 1 (s, u1) hcnt rfl rfl
    | some q =>
      obtain ⟨k, u⟩ := q
      rw [hk] at h
      dsimp only at h
      have hR : keyR k = false := by
        cases hR : keyR k with
        | false => rfl
        | true => rw [hR, if_pos rfl] at h; cases h
      rcases keyOf_cases hk with ⟨hx, d, n, hc2, hn, hkk⟩ | ⟨hx, t, hq, hkk⟩ | ⟨hx, d, n, hc2, hn, hkk⟩
      · have hl2 := len_cut1 hc2
        subst hx
        subst hkk
        repeat' (first | ((with_reducible (first | apply gq_then_panic | apply gq_block_panic))) | refine KO ?_ | (refine CF 22 ?_; (first | ((with_reducible apply g_enter_bor 1); exact rfl; exact rfl; exact rfl; ((with_reducible apply e_call1); kernel_rfl; exact rfl); exact rfl; (first | exact fun w hw hO => word_ok rb s rest line hc hs hr hl w _ hw hm hO | exact fun w hw hO => word_ok rb s u1 line hc2 hs hr1 hl w _ hw hm hO); (rintro v2 μ2 ⟨⟩ hle2 rfl); (dsimp only [List.cons_append, List.nil_append]); refine g_forget hcnt hle2 rfl ?_) | ((with_reducible apply g_pull_1); (with_reducible apply g_enter_bor 1); exact rfl; exact rfl; exact rfl; ((with_reducible apply e_call1); kernel_rfl; exact rfl); exact rfl; (first | exact fun w hw hO => word_ok rb s rest line hc hs hr hl w _ hw hm hO | exact fun w hw hO => word_ok rb s u1 line hc2 hs hr1 hl w _ hw hm hO); (rintro v2 μ2 ⟨⟩ hle2 rfl); (dsimp only [List.cons_append, List.nil_append]); refine g_forget hcnt hle2 rfl ?_) | ((with_reducible apply g_pull_2); (with_reducible apply g_enter_bor 1); exact rfl; exact rfl; exact rfl; ((with_reducible apply e_call1); kernel_rfl; exact rfl); exact rfl; (first | exact fun w hw hO => word_ok rb s rest line hc hs hr hl w _ hw hm hO | exact fun w hw hO => word_ok rb s u1 line hc2 hs hr1 hl w _ hw hm hO); (rintro v2 μ2 ⟨⟩ hle2 rfl); (dsimp only [List.cons_append, List.nil_append]); refine g_forget hcnt hle2 rfl ?_) | ((with_reducible apply g_pull_3); (with_reducible apply g_enter_bor 1); exact rfl; exact rfl; exact rfl; ((with_reducible apply e_call1); kernel_rfl; exact rfl); exact rfl; (first | exact fun w hw hO => word_ok rb s rest line hc hs hr hl w _ hw hm hO | exact fun w hw hO => word_ok rb s u1 line hc2 hs hr1 hl w _ hw hm hO); (rintro v2 μ2 ⟨⟩ hle2 rfl); (dsimp only [List.cons_append, List.nil_append]); refine g_forget hcnt hle2 rfl ?_))) | ((with_reducible apply F1 27); exact rfl; exact EN; (exact fun w μc hw hse => number_at hn (by omega) w μc hw (hT.mono hse.le))) | ((with_reducible apply F1 38); exact rfl; exact EN; (first | (exact fun w μc hw hse => keyRight_spec ⟨0, n, ⟨#[]⟩⟩ (by show 0 ≤ _; omega) w μc hw) | (exact fun w μc hw hse => keyRight_spec ⟨2, n, ⟨#[]⟩⟩ (by show 0 ≤ _; omega) w μc hw) | (exact fun w μc hw hse => keyRight_spec ⟨1, 0, ofB t⟩ (by show (ofB t).size ≤ _; rw [ofB_size]; omega) w μc hw))) | (refine CF 24 ?_; (with_reducible apply g_enter_pan 0); exact rfl; ((with_reducible apply e_call2); kernel_rfl; exact rfl; exact rfl); exact rfl; (first | (exact fun w hw _ => must_errb hR _ w _ hw))) | refine KI ?_ | refine NB fun b => ?_ | ((refine KB ?_ ?_ <;> intro hp)) | refine KG ?_ | fail)
        refine gq_sel (l' := []) (L' := rdB rb (s, line, u)) PU PS ?_
        exact gq_panB (Ls := fun i : List UInt8 × List UInt8 => rdB rb (i.1, line, i.2)) 1 (s, u) hcnt rfl rfl
      · have hl2 := len_quoted hq
        subst hx
        subst hkk
        have hpre : (32 :: u : List UInt8).head? = some 32 := rfl
        have hext : (ofB (32 :: u)).extract 1 (ofB (32 :: u)).size = ofB u := by rw [ext_drop]; rfl
        have hsz := ofB_size (32 :: u)
        have hlu : (32 :: u : List UInt8).length = u.length + 1 := rfl
        repeat' (first | ((with_reducible (first | apply gq_then_panic | apply gq_block_panic))) | refine KO ?_ | (refine CF 22 ?_; (first | ((with_reducible apply g_enter_bor 1); exact rfl; exact rfl; exact rfl; ((with_reducible apply e_call1); kernel_rfl; exact rfl); exact rfl; (first | exact fun w hw hO => word_ok rb s rest line hc hs hr hl w _ hw hm hO | exact fun w hw hO => word_ok rb s u1 line hc2 hs hr1 hl w _ hw hm hO); (rintro v2 μ2 ⟨⟩ hle2 rfl); (dsimp only [List.cons_append, List.nil_append]); refine g_forget hcnt hle2 rfl ?_) | ((with_reducible apply g_pull_1); (with_reducible apply g_enter_bor 1); exact rfl; exact rfl; exact rfl; ((with_reducible apply e_call1); kernel_rfl; exact rfl); exact rfl; (first | exact fun w hw hO => word_ok rb s rest line hc hs hr hl w _ hw hm hO | exact fun w hw hO => word_ok rb s u1 line hc2 hs hr1 hl w _ hw hm hO); (rintro v2 μ2 ⟨⟩ hle2 rfl); (dsimp only [List.cons_append, List.nil_append]); refine g_forget hcnt hle2 rfl ?_) | ((with_reducible apply g_pull_2); (with_reducible apply g_enter_bor 1); exact rfl; exact rfl; exact rfl; ((with_reducible apply e_call1); kernel_rfl; exact rfl); exact rfl; (first | exact fun w hw hO => word_ok rb s rest line hc hs hr hl w _ hw hm hO | exact fun w hw hO => word_ok rb s u1 line hc2 hs hr1 hl w _ hw hm hO); (rintro v2 μ2 ⟨⟩ hle2 rfl); (dsimp only [List.cons_append, List.nil_append]); refine g_forget hcnt hle2 rfl ?_) | ((with_reducible apply g_pull_3); (with_reducible apply g_enter_bor 1); exact rfl; exact rfl; exact rfl; ((with_reducible apply e_call1); kernel_rfl; exact rfl); exact rfl; (first | exact fun w hw hO => word_ok rb s rest line hc hs hr hl w _ hw hm hO | exact fun w hw hO => word_ok rb s u1 line hc2 hs hr1 hl w _ hw hm hO); (rintro v2 μ2 ⟨⟩ hle2 rfl); (dsimp only [List.cons_append, List.nil_append]); refine g_forget hcnt hle2 rfl ?_))) | (refine CF 48 ?_; (first | ((with_reducible apply g_enter_bor 1); exact rfl; exact rfl; exact rfl; ((with_reducible apply e_call1); kernel_rfl; exact rfl); exact rfl; (first | exact fun w hw hO => quoted_ok rb s u1 line hq hs hr1 hl w _ hw hm hO); (rintro v2 μ2 ⟨⟩ hle2 rfl); (dsimp only [List.cons_append, List.nil_append]); refine g_forget hcnt hle2 rfl ?_) | ((with_reducible apply g_pull_1); (with_reducible apply g_enter_bor 1); exact rfl; exact rfl; exact rfl; ((with_reducible apply e_call1); kernel_rfl; exact rfl); exact rfl; (first | exact fun w hw hO => quoted_ok rb s u1 line hq hs hr1 hl w _ hw hm hO); (rintro v2 μ2 ⟨⟩ hle2 rfl); (dsimp only [List.cons_append, List.nil_append]); refine g_forget hcnt hle2 rfl ?_) | ((with_reducible apply g_pull_2); (with_reducible apply g_enter_bor 1); exact rfl; exact rfl; exact rfl; ((with_reducible apply e_call1); kernel_rfl; exact rfl); exact rfl; (first | exact fun w hw hO => quoted_ok rb s u1 line hq hs hr1 hl w _ hw hm hO); (rintro v2 μ2 ⟨⟩ hle2 rfl); (dsimp only [List.cons_append, List.nil_append]); refine g_forget hcnt hle2 rfl ?_) | ((with_reducible apply g_pull_3); (with_reducible apply g_enter_bor 1); exact rfl; exact rfl; exact rfl; ((with_reducible apply e_call1); kernel_rfl; exact rfl); exact rfl; (first | exact fun w hw hO => quoted_ok rb s u1 line hq hs hr1 hl w _ hw hm hO); (rintro v2 μ2 ⟨⟩ hle2 rfl); (dsimp only [List.cons_append, List.nil_append]); refine g_forget hcnt hle2 rfl ?_))) | ((with_reducible apply F1 68); exact rfl; exact EN; (exact fun w μc hw hse => pre_at (32 :: u) (by omega) w μc hw)) | ((with_reducible apply F1 38); exact rfl; exact EN; (first | (exact fun w μc hw hse => keyRight_spec ⟨0, n, ⟨#[]⟩⟩ (by show 0 ≤ _; omega) w μc hw) | (exact fun w μc hw hse => keyRight_spec ⟨2, n, ⟨#[]⟩⟩ (by show 0 ≤ _; omega) w μc hw) | (exact fun w μc hw hse => keyRight_spec ⟨1, 0, ofB t⟩ (by show (ofB t).size ≤ _; rw [ofB_size]; omega) w μc hw))) | ((with_reducible apply F1 24); exact rfl; exact EN; (first | (exact fun w μc hw hse => must_okb (decide_eq_true hpre) _ w μc hw))) | (refine CF 24 ?_; (with_reducible apply g_enter_pan 0); exact rfl; ((with_reducible apply e_call2); kernel_rfl; exact rfl; exact rfl); exact rfl; (first | (exact fun w hw _ => must_errb hR _ w _ hw))) | (refine KV (b := by first | ((with_reducible apply v_str_lo 1); exact rfl; exact rfl; exact rfl; exact rfl; omega)) (c := ?_)) | refine KI ?_ | refine NB fun b => ?_ | ((refine KB ?_ ?_ <;> intro hp)) | refine KG ?_ | fail)
        rw [hext]
        refine gq_sel (l' := []) (L' := rdB rb (s, line, u)) PU PS ?_
        exact gq_panB (Ls := fun i : List UInt8 × List UInt8 => rdB rb (i.1, line, i.2)) 1 (s, u) hcnt rfl rfl
      · have hl2 := len_cut1 hc2
        subst hx
        subst hkk
        repeat' (first | ((with_reducible (first | apply gq_then_panic | apply gq_block_panic))) | refine KO ?_ | (refine CF 22 ?_; (first | ((with_reducible apply g_enter_bor 1); exact rfl; exact rfl; exact rfl; ((with_reducible apply e_call1); kernel_rfl; exact rfl); exact rfl; (first | exact fun w hw hO => word_ok rb s rest line hc hs hr hl w _ hw hm hO | exact fun w hw hO => word_ok rb s u1 line hc2 hs hr1 hl w _ hw hm hO); (rintro v2 μ2 ⟨⟩ hle2 rfl); (dsimp only [List.cons_append, List.nil_append]); refine g_forget hcnt hle2 rfl ?_) | ((with_reducible apply g_pull_1); (with_reducible apply g_enter_bor 1); exact rfl; exact rfl; exact rfl; ((with_reducible apply e_call1); kernel_rfl; exact rfl); exact rfl; (first | exact fun w hw hO => word_ok rb s rest line hc hs hr hl w _ hw hm hO | exact fun w hw hO => word_ok rb s u1 line hc2 hs hr1 hl w _ hw hm hO); (rintro v2 μ2 ⟨⟩ hle2 rfl); (dsimp only [List.cons_append, List.nil_append]); refine g_forget hcnt hle2 rfl ?_) | ((with_reducible apply g_pull_2); (with_reducible apply g_enter_bor 1); exact rfl; exact rfl; exact rfl; ((with_reducible apply e_call1); kernel_rfl; exact rfl); exact rfl; (first | exact fun w hw hO => word_ok rb s rest line hc hs hr hl w _ hw hm hO | exact fun w hw hO => word_ok rb s u1 line hc2 hs hr1 hl w _ hw hm hO); (rintro v2 μ2 ⟨⟩ hle2 rfl); (dsimp only [List.cons_append, List.nil_append]); refine g_forget hcnt hle2 rfl ?_) | ((with_reducible apply g_pull_3); (with_reducible apply g_enter_bor 1); exact rfl; exact rfl; exact rfl; ((with_reducible apply e_call1); kernel_rfl; exact rfl); exact rfl; (first | exact fun w hw hO => word_ok rb s rest line hc hs hr hl w _ hw hm hO | exact fun w hw hO => word_ok rb s u1 line hc2 hs hr1 hl w _ hw hm hO); (rintro v2 μ2 ⟨⟩ hle2 rfl); (dsimp only [List.cons_append, List.nil_append]); refine g_forget hcnt hle2 rfl ?_))) | ((with_reducible apply F1 27); exact rfl; exact EN; (exact fun w μc hw hse => number_at hn (by omega) w μc hw (hT.mono hse.le))) | ((with_reducible apply F1 38); exact rfl; exact EN; (first | (exact fun w μc hw hse => keyRight_spec ⟨0, n, ⟨#[]⟩⟩ (by show 0 ≤ _; omega) w μc hw) | (exact fun w μc hw hse => keyRight_spec ⟨2, n, ⟨#[]⟩⟩ (by show 0 ≤ _; omega) w μc hw) | (exact fun w μc hw hse => keyRight_spec ⟨1, 0, ofB t⟩ (by show (ofB t).size ≤ _; rw [ofB_size]; omega) w μc hw))) | (refine CF 24 ?_; (with_reducible apply g_enter_pan 0); exact rfl; ((with_reducible apply e_call2); kernel_rfl; exact rfl; exact rfl); exact rfl; (first | (exact fun w hw _ => must_errb hR _ w _ hw))) | refine KI ?_ | refine NB fun b => ?_ | ((refine KB ?_ ?_ <;> intro hp)) | refine KG ?_ | fail)
        refine gq_sel (l' := []) (L' := rdB rb (s, line, u)) PU PS ?_
        exact gq_panB (Ls := fun i : List UInt8 × List UInt8 => rdB rb (i.1, line, i.2)) 1 (s, u) hcnt rfl rfl
end Go.Proofs.YtmihpkdhfomcgaaGreatDoor
namespace Go.Vcg
open Go.RowKit
theorem gc_forget {P : Program} {μ : Mem} {l : Slots} {L : List Bk} {X : Ctx} {Q : Exit → Act → World → Prop} {c : Code} {μ1 : Mem} (hM : ∀ D, X.M.count D ≤ 1) (hle : MLe μ1 μ) (h1 : X.μ0 = μ1) (h : GC P X c Q μ1 l L) : GC P X c Q μ l L := by
  subst h1
  exact fun a w hs => h a w ⟨hs.size, by rw [hs.defers.none hM]; exact Marks.nil, hs.slots, hs.keep, fun b o e => hs.mem b o (hle b o e), MLe.refl _, fun _ _ _ h => h, hs.own, fun x hx b hb => (by
    cases e : X.μ0 b with
    | none => rfl
    | some o => exact absurd ((hle b o e).symm.trans (hs.priv x hx b hb)) (by simp)), hs.new, hs.diff⟩
end Go.Vcg
namespace Go.Proofs.YtmihpkdhfomcgaaGreatDoor
open Go.RowKit Go.Vcg Ou
def kF (x : List UInt8) : Nat → Int
  | 0 => 0
  | i + 1 => if evT.getD i [] = x then (i : Int) + 1 else kF x i
theorem kF_hit {x : List UInt8} : ∀ (i : Nat), i ≤ 13 → (∃ j, j < i ∧ evT.getD j [] = x ∧ kF x i = (j : Int) + 1) ∨ (∀ j, j < i → ¬ evT.getD j [] = x) ∧ kF x i = 0
  | 0, _ => .inr ⟨fun j hj => by omega, rfl⟩
  | i + 1, h => by
    by_cases he : evT.getD i [] = x
    · exact .inl ⟨i, by omega, he, by rw [kF, if_pos he]⟩
    · rw [kF, if_neg he]
      rcases kF_hit (x := x) i (by omega) with ⟨j, h1, h2, h3⟩ | ⟨h1, h2⟩
      · exact .inl ⟨j, by omega, h2, h3⟩
      · refine .inr ⟨fun j hj => ?_, h2⟩
        by_cases hji : j = i
        · rw [hji]; exact he
        · exact h1 j (by omega)
theorem findB_none : ∀ {t : List (Int × List UInt8)} {l : List UInt8}, findB t l = none → ∀ p ∈ t, ¬ p.2 = l
  | [], _, _, p, hp => by cases hp
  | (k, v) :: r, l, h, p, hp => by
    unfold findB at h
    split at h
    · cases h
    · rename_i hv
      rcases List.mem_cons.1 hp with rfl | hp
      · exact hv
      · exact findB_none h p hp
theorem evT_mem (j : Nat) (h : j < 13) : (((j : Int) + 1, evT.getD j []) : Int × List UInt8) ∈ evT' := List.mem_map.2 ⟨j, List.mem_range.2 h, rfl⟩
theorem kF_some {x : List UInt8} {k : Int} (h : findB evT' x = some k) : kF x 13 = k ∧ 0 < k := by
  have hm := findB_some h
  obtain ⟨j, hj, he⟩ := List.mem_map.1 hm
  have hj13 := List.mem_range.1 hj
  cases he
  have hd : ∀ a, a < 13 → ∀ b, b < 13 → evT.getD a [] = evT.getD b [] → a = b := by decide +kernel
  rcases kF_hit (x := evT.getD j []) 13 (Nat.le_refl _) with ⟨i, h1, h2, h3⟩ | ⟨h1, _⟩
  · rw [h3, hd i h1 j hj13 h2]
    exact ⟨rfl, by omega⟩
  · exact absurd rfl (h1 j hj13)
theorem kF_none {x : List UInt8} (h : findB evT' x = none) : kF x 13 = 0 := by
  rcases kF_hit (x := x) 13 (Nat.le_refl _) with ⟨i, h1, h2, h3⟩ | ⟨_, h2⟩
  · exact absurd h2 (findB_none h _ (evT_mem i h1))
  · exact h2
abbrev encE (e : EvP) : List Value := [.int .i64 e.kind, .int .i64 e.key.kind, .int .i64 e.key.n, .string e.key.s, .string e.s]
theorem ev_get {i : Nat} (h : i < 13) : (evT.map ofB)[i]? = some (ofB (evT.getD i [])) := by
  have : ∀ i, i < 13 → (evT.map ofB)[i]? = some (ofB (evT.getD i [])) := by decide +kernel
  exact this i h
theorem ev_lk {i : Nat} (h : i < 13) : lk (idx 0 evV) (i * 1 + 0) = some (.string (ofB (evT.getD i []))) := by
  match i, h with
  | 0, _ => rfl
  | 1, _ => rfl
  | 2, _ => rfl
  | 3, _ => rfl
  | 4, _ => rfl
  | 5, _ => rfl
  | 6, _ => rfl
  | 7, _ => rfl
  | 8, _ => rfl
  | 9, _ => rfl
  | 10, _ => rfl
  | 11, _ => rfl
  | 12, _ => rfl
theorem kF_succ (x : List UInt8) (i : Nat) : kF x (i + 1) = if evT.getD i [] = x then (i : Int) + 1 else kF x i := rfl
attribute [local irreducible] G GC GQ GA GAop Calls IntKind.wrap Int.decLt Int.decLe idxF evT
theorem key_len {R : KeyP → Bool} {l u : List UInt8} {k : KeyP} (h : keyRd R l = some (k, u)) : u.length ≤ l.length := by
  obtain ⟨w, u1, h1, _, h3⟩ := key_cases h
  have := len_cut1 h1
  rcases h3 with ⟨_, d, n, h4, _⟩ | ⟨_, t, h4, _⟩ | ⟨_, d, n, h4, _⟩
  · have := len_cut1 h4; omega
  · have := len_quoted h4; simp at this; omega
  · have := len_cut1 h4; omega
theorem event_ok {e : EvP} (rb : Nat) (s rest : List UInt8) (line : Int) (h : evRd keyR rest = some e) (hs : s.length ≤ 100000) (hr : rest.length ≤ 100000) (hl : 0 ≤ line ∧ line ≤ 100000) (w : World) (μ : Mem) (hμ : MOk μ w) (hm : MaxOk μ) (hT : TabOk μ) (hO : Go.Vcg.Own μ (rdB rb (s, line, rest)) w) :
    Calls Tryz.prog 28 #[.pointer (some ⟨rb, 0, none⟩)] w (RdK (idsOf (rdB rb (s, line, rest))) w μ rb (s, line, []) fun v => v = .agg (encE e).toArray) := by
  unfold evRd at h
  split at h
  · cases h
  rename_i x u1 hc
  split at h
  · cases h
  rename_i kind hf
  split at h
  · cases h
  rename_i k v hk
  obtain ⟨t, ht, rfl⟩ := Option.map_eq_some_iff.1 h
  have hl1 := len_cut1 hc
  have hr1 : u1.length ≤ 100000 := by omega
  have hrv : v.length ≤ 100000 := by have := key_len hk; omega
  obtain ⟨hkf, hkp⟩ := kF_some hf
  have hcnt := ids_count hO.diff
  refine call_introM (args := [.pointer (some ⟨rb, 0, none⟩)]) Tryz.func28 rfl Tryz.ntmps28 (by simp) hμ hO ?_
  show GC _ _ _ _ _ _ [.inl ⟨rb, 35, 3, [(0, .string (ofB s)), (1, .int .i64 line), (2, .string (ofB rest))]⟩]
  repeat' (first | ((with_reducible show GC _ _ (Code.seq (Code.region 1 _ _) _) _ _ _ _); (apply gc_stop)) | refine KK ?_ | refine NB fun b => ?_ | ((refine KB ?_ ?_ <;> intro hp)) | refine KG ?_ | fail)
  obtain ⟨bq, hbq⟩ : ∃ x, x = b := ⟨_, rfl⟩
  rw [← hbq]
  clear hbq
  refine gcs ?_
  repeat' (first | ((with_reducible show GC _ _ (Code.seq (Code.region 2 _ _) _) _ _ _ _); (apply gc_stop)) | refine KK ?_ | refine NB fun b => ?_ | ((refine KB ?_ ?_ <;> intro hp)) | refine KG ?_ | fail)
  obtain ⟨bk, hbk⟩ : ∃ x, x = b := ⟨_, rfl⟩
  rw [← hbk]
  clear hbk
  refine gcs ?_
  repeat' (first | refine KO ?_ | (refine CF 22 ?_; (first | ((with_reducible apply g_enter_bor 1); exact rfl; exact rfl; exact rfl; ((with_reducible apply e_call1); kernel_rfl; exact rfl); exact rfl; (first | exact fun w hw hO => word_ok rb s rest line hc hs hr hl w _ hw hm hO); (rintro v2 μ2 ⟨⟩ hle2 rfl); (dsimp only [List.cons_append, List.nil_append]); refine g_forget hcnt hle2 rfl ?_) | ((with_reducible apply g_pull_1); (with_reducible apply g_enter_bor 1); exact rfl; exact rfl; exact rfl; ((with_reducible apply e_call1); kernel_rfl; exact rfl); exact rfl; (first | exact fun w hw hO => word_ok rb s rest line hc hs hr hl w _ hw hm hO); (rintro v2 μ2 ⟨⟩ hle2 rfl); (dsimp only [List.cons_append, List.nil_append]); refine g_forget hcnt hle2 rfl ?_) | ((with_reducible apply g_pull_2); (with_reducible apply g_enter_bor 1); exact rfl; exact rfl; exact rfl; ((with_reducible apply e_call1); kernel_rfl; exact rfl); exact rfl; (first | exact fun w hw hO => word_ok rb s rest line hc hs hr hl w _ hw hm hO); (rintro v2 μ2 ⟨⟩ hle2 rfl); (dsimp only [List.cons_append, List.nil_append]); refine g_forget hcnt hle2 rfl ?_) | ((with_reducible apply g_pull_3); (with_reducible apply g_enter_bor 1); exact rfl; exact rfl; exact rfl; ((with_reducible apply e_call1); kernel_rfl; exact rfl); exact rfl; (first | exact fun w hw hO => word_ok rb s rest line hc hs hr hl w _ hw hm hO); (rintro v2 μ2 ⟨⟩ hle2 rfl); (dsimp only [List.cons_append, List.nil_append]); refine g_forget hcnt hle2 rfl ?_))) | (refine CF 18 ?_; (with_reducible apply g_enter_bor (Ls := fun i => [.inl ⟨i, 9, 13, idx 0 evV⟩]) 0); exact rfl; exact rfl; exact rfl; ((with_reducible apply e_call0); kernel_rfl); exact rfl; (exact fun w hw _ => events_spec w _ hw); (rintro v2 μ2 bev hle2 rfl); (dsimp only [List.cons_append, List.nil_append])) | refine KI ?_ | refine NB fun b => ?_ | ((refine KB ?_ ?_ <;> intro hp)) | refine KG ?_ | fail)
  refine gc_share_0 rfl ?_
  rintro μ3 hle3 hsh
  have hev : Sl encStr 1 μ3 (some ⟨bev, 0, none⟩) 13 (evT.map ofB) := Sl.of_own hsh (by decide +kernel) (fun i y hy j v hj => by
    have hi : i < 13 := by have := (List.getElem?_eq_some_iff.1 hy).1; have h13 : (evT.map ofB).length = 13 := by decide +kernel
                           omega
    rw [ev_get hi] at hy
    cases hy
    match j, hj with
    | 0, hj =>
      cases hj
      exact ev_lk hi)
  refine gc_loop (ι := Nat) (fun i => i ≤ 13) (fun i => 13 - i) (fun _ => μ3) (fun i => [(12, .int .i64 i), (11, .int .i64 (13 : Nat)), (10, .slice (some ⟨bev, 0, none⟩) 13 13), (4, .string (ofB x)), (3, .pointer (some ⟨bk, 0, none⟩)), (2, .pointer (some ⟨bq, 0, none⟩)), (0, .pointer (some ⟨rb, 0, none⟩))])
    (fun i => rdB rb (s, line, u1) ++ [.inl ⟨bk, 43, 5, [(0, .int .i64 (kF x i)), (1, .int .i64 0), (2, .int .i64 0), (3, .string ⟨#[]⟩), (4, .string ⟨#[]⟩)]⟩, .inl ⟨bq, 43, 5, idx 0 [.int .i64 0, .int .i64 0, .int .i64 0, .string ⟨#[]⟩, .string ⟨#[]⟩]⟩]) 0 (Nat.zero_le _) (fun a w hs => J5 hs) ?_
  intro i hi
  dsimp only [List.cons_append, List.nil_append]
  by_cases hlt : i < 13
  · obtain ⟨ad, y, hA, hy, hmy⟩ := hev.get hlt
    cases hA
    rw [ev_get hlt] at hy
    cases hy
    have hk1 : kF x (i + 1) = if evT.getD i [] = x then (i : Int) + 1 else kF x i := kF_succ x i
    by_cases he : evT.getD i [] = x
    · rw [if_pos he] at hk1
      have he' : ofB (evT.getD i []) = ofB x := by rw [he]
      repeat' (first | refine KO ?_ | (refine KV (b := by first | exact U1 i | exact U3 (hmy.at 0 rfl)) (c := ?_)) | refine KI ?_ | refine NB fun b => ?_ | ((refine KB ?_ ?_ <;> intro hp)) | refine KG ?_ | fail)
      all_goals first | (exfalso; omega) | exact absurd he' ‹_› | skip
      refine gq_backS (i + 1) (by omega) (by omega) rfl PU ?_
      rw [hk1]
      exact PS
    · rw [if_neg he] at hk1
      have he' : ¬ ofB (evT.getD i []) = ofB x := fun h => he (ofB_inj h)
      repeat' (first | refine KO ?_ | (refine KV (b := by first | exact U1 i | exact U3 (hmy.at 0 rfl)) (c := ?_)) | refine KI ?_ | refine NB fun b => ?_ | ((refine KB ?_ ?_ <;> intro hp)) | refine KG ?_ | fail)
      all_goals first | (exfalso; omega) | exact absurd ‹_› he' | skip
      refine gq_backS (i + 1) (by omega) (by omega) rfl PU ?_
      rw [hk1]
      exact PS
  · obtain rfl : i = 13 := by omega
    refine gc_forget hcnt (hle2.trans hle3) rfl ?_
    rw [hkf]
    repeat' (first | refine KO ?_ | ((with_reducible apply F1 24); exact rfl; exact EN; (first | (exact fun w μc hw hse => must_okb (decide_eq_true hkp) _ w μc hw))) | (refine CF 50 ?_; (first | ((with_reducible apply g_enter_bor 1); exact rfl; exact rfl; exact rfl; ((with_reducible apply e_call1); kernel_rfl; exact rfl); exact rfl; (first | exact fun w hw hO => key_ok rb s u1 line hk hs hr1 hl w _ hw hm hT hO); (rintro v2 μ2 ⟨⟩ hle2 rfl); (dsimp only [List.cons_append, List.nil_append]); refine g_forget hcnt hle2 rfl ?_) | ((with_reducible apply g_pull_1); (with_reducible apply g_enter_bor 1); exact rfl; exact rfl; exact rfl; ((with_reducible apply e_call1); kernel_rfl; exact rfl); exact rfl; (first | exact fun w hw hO => key_ok rb s u1 line hk hs hr1 hl w _ hw hm hT hO); (rintro v2 μ2 ⟨⟩ hle2 rfl); (dsimp only [List.cons_append, List.nil_append]); refine g_forget hcnt hle2 rfl ?_) | ((with_reducible apply g_pull_2); (with_reducible apply g_enter_bor 1); exact rfl; exact rfl; exact rfl; ((with_reducible apply e_call1); kernel_rfl; exact rfl); exact rfl; (first | exact fun w hw hO => key_ok rb s u1 line hk hs hr1 hl w _ hw hm hT hO); (rintro v2 μ2 ⟨⟩ hle2 rfl); (dsimp only [List.cons_append, List.nil_append]); refine g_forget hcnt hle2 rfl ?_) | ((with_reducible apply g_pull_3); (with_reducible apply g_enter_bor 1); exact rfl; exact rfl; exact rfl; ((with_reducible apply e_call1); kernel_rfl; exact rfl); exact rfl; (first | exact fun w hw hO => key_ok rb s u1 line hk hs hr1 hl w _ hw hm hT hO); (rintro v2 μ2 ⟨⟩ hle2 rfl); (dsimp only [List.cons_append, List.nil_append]); refine g_forget hcnt hle2 rfl ?_))) | (refine CF 25 ?_; (first | ((with_reducible apply g_enter_bor 1); exact rfl; exact rfl; exact rfl; ((with_reducible apply e_call1); kernel_rfl; exact rfl); exact rfl; (first | exact fun w hw hO => last_ok rb s v line ht hs hrv hl w _ hw hm hO); (rintro v2 μ2 ⟨⟩ hle2 rfl); (dsimp only [List.cons_append, List.nil_append]); refine g_forget hcnt hle2 rfl ?_) | ((with_reducible apply g_pull_1); (with_reducible apply g_enter_bor 1); exact rfl; exact rfl; exact rfl; ((with_reducible apply e_call1); kernel_rfl; exact rfl); exact rfl; (first | exact fun w hw hO => last_ok rb s v line ht hs hrv hl w _ hw hm hO); (rintro v2 μ2 ⟨⟩ hle2 rfl); (dsimp only [List.cons_append, List.nil_append]); refine g_forget hcnt hle2 rfl ?_) | ((with_reducible apply g_pull_2); (with_reducible apply g_enter_bor 1); exact rfl; exact rfl; exact rfl; ((with_reducible apply e_call1); kernel_rfl; exact rfl); exact rfl; (first | exact fun w hw hO => last_ok rb s v line ht hs hrv hl w _ hw hm hO); (rintro v2 μ2 ⟨⟩ hle2 rfl); (dsimp only [List.cons_append, List.nil_append]); refine g_forget hcnt hle2 rfl ?_) | ((with_reducible apply g_pull_3); (with_reducible apply g_enter_bor 1); exact rfl; exact rfl; exact rfl; ((with_reducible apply e_call1); kernel_rfl; exact rfl); exact rfl; (first | exact fun w hw hO => last_ok rb s v line ht hs hrv hl w _ hw hm hO); (rintro v2 μ2 ⟨⟩ hle2 rfl); (dsimp only [List.cons_append, List.nil_append]); refine g_forget hcnt hle2 rfl ?_))) | refine KI ?_ | refine NB fun b => ?_ | ((refine KB ?_ ?_ <;> intro hp)) | refine KG ?_ | fail)
    refine gq_sel (l' := [(2, .pointer (some ⟨bq, 0, none⟩))]) (L' := rdB rb (s, line, []) ++ [.inl ⟨bq, 43, 5, idx 0 (encE ⟨kind, k, ofB t⟩)⟩]) PU PS ?_
    exact ret_bor (Post := fun _ r _ => r = .agg (encE ⟨kind, k, ofB t⟩).toArray) (Ls := fun _ : Unit => rdB rb (s, line, [])) 1 () hcnt rfl (rv_agg 1 rfl rfl rfl rfl rfl (by repeat first | exact lc_nil | refine lc_cons rfl ?_)) rfl rfl (fun _ _ => rfl)
theorem event_err (rb : Nat) (s rest : List UInt8) (line : Int) (h : evRd keyR rest = none) (hs : s.length ≤ 100000) (hr : rest.length ≤ 100000) (hl : 0 ≤ line ∧ line ≤ 100000) (w : World) (μ : Mem) (hμ : MOk μ w) (hm : MaxOk μ) (hT : TabOk μ) (hO : Go.Vcg.Own μ (rdB rb (s, line, rest)) w) :
    Calls Tryz.prog 28 #[.pointer (some ⟨rb, 0, none⟩)] w (RdE (idsOf (rdB rb (s, line, rest))) w μ rb line 7) := by
  have hcnt := ids_count hO.diff
  refine call_introM (args := [.pointer (some ⟨rb, 0, none⟩)]) Tryz.func28 rfl Tryz.ntmps28 (by simp) hμ hO ?_
  show GC _ _ _ _ _ _ [.inl ⟨rb, 35, 3, [(0, .string (ofB s)), (1, .int .i64 line), (2, .string (ofB rest))]⟩]
  repeat' (first | ((with_reducible show GC _ _ (Code.seq (Code.region 1 _ _) _) _ _ _ _); (apply gc_stop)) | refine KK ?_ | refine NB fun b => ?_ | ((refine KB ?_ ?_ <;> intro hp)) | refine KG ?_ | fail)
  obtain ⟨bq, hbq⟩ : ∃ x, x = b := ⟨_, rfl⟩
  rw [← hbq]
  clear hbq
  refine gcs ?_
  repeat' (first | ((with_reducible show GC _ _ (Code.seq (Code.region 2 _ _) _) _ _ _ _); (apply gc_stop)) | refine KK ?_ | refine NB fun b => ?_ | ((refine KB ?_ ?_ <;> intro hp)) | refine KG ?_ | fail)
  obtain ⟨bk, hbk⟩ : ∃ x, x = b := ⟨_, rfl⟩
  rw [← hbk]
  clear hbk
  refine gcs ?_
  cases hc : Ou.cutB 32 rest with
  | none =>
    repeat' (first | ((with_reducible (first | apply gq_then_panic | apply gq_block_panic))) | refine KO ?_ | (refine CF 22 ?_; (first | ((with_reducible apply g_enter_panB 1); exact rfl; ((with_reducible apply e_call1); kernel_rfl; exact rfl); exact rfl; (first | exact fun w hw hO => word_err rb s rest line hc hs hr hl w _ hw hm hO); (rintro μ2 i2 hle2); (dsimp only [List.cons_append, List.nil_append])) | ((with_reducible apply g_pull_1); (with_reducible apply g_enter_panB 1); exact rfl; ((with_reducible apply e_call1); kernel_rfl; exact rfl); exact rfl; (first | exact fun w hw hO => word_err rb s rest line hc hs hr hl w _ hw hm hO); (rintro μ2 i2 hle2); (dsimp only [List.cons_append, List.nil_append])) | ((with_reducible apply g_pull_2); (with_reducible apply g_enter_panB 1); exact rfl; ((with_reducible apply e_call1); kernel_rfl; exact rfl); exact rfl; (first | exact fun w hw hO => word_err rb s rest line hc hs hr hl w _ hw hm hO); (rintro μ2 i2 hle2); (dsimp only [List.cons_append, List.nil_append])) | ((with_reducible apply g_pull_3); (with_reducible apply g_enter_panB 1); exact rfl; ((with_reducible apply e_call1); kernel_rfl; exact rfl); exact rfl; (first | exact fun w hw hO => word_err rb s rest line hc hs hr hl w _ hw hm hO); (rintro μ2 i2 hle2); (dsimp only [List.cons_append, List.nil_append])))) | refine KI ?_ | refine NB fun b => ?_ | ((refine KB ?_ ?_ <;> intro hp)) | refine KG ?_ | fail)
    refine gq_sel (l' := []) (L' := rdB rb (i2.1, line, i2.2)) PU PS ?_
    exact gq_panB (Ls := fun i : List UInt8 × List UInt8 => rdB rb (i.1, line, i.2)) 1 (i2.1, i2.2) hcnt rfl rfl
  | some p =>
  obtain ⟨x, u1⟩ := p
  have hl1 := len_cut1 hc
  have hr1 : u1.length ≤ 100000 := by omega
  unfold evRd at h
  rw [hc] at h
  dsimp only at h
  repeat' (first | refine KO ?_ | (refine CF 22 ?_; (first | ((with_reducible apply g_enter_bor 1); exact rfl; exact rfl; exact rfl; ((with_reducible apply e_call1); kernel_rfl; exact rfl); exact rfl; (first | exact fun w hw hO => word_ok rb s rest line hc hs hr hl w _ hw hm hO); (rintro v2 μ2 ⟨⟩ hle2 rfl); (dsimp only [List.cons_append, List.nil_append]); refine g_forget hcnt hle2 rfl ?_) | ((with_reducible apply g_pull_1); (with_reducible apply g_enter_bor 1); exact rfl; exact rfl; exact rfl; ((with_reducible apply e_call1); kernel_rfl; exact rfl); exact rfl; (first | exact fun w hw hO => word_ok rb s rest line hc hs hr hl w _ hw hm hO); (rintro v2 μ2 ⟨⟩ hle2 rfl); (dsimp only [List.cons_append, List.nil_append]); refine g_forget hcnt hle2 rfl ?_) | ((with_reducible apply g_pull_2); (with_reducible apply g_enter_bor 1); exact rfl; exact rfl; exact rfl; ((with_reducible apply e_call1); kernel_rfl; exact rfl); exact rfl; (first | exact fun w hw hO => word_ok rb s rest line hc hs hr hl w _ hw hm hO); (rintro v2 μ2 ⟨⟩ hle2 rfl); (dsimp only [List.cons_append, List.nil_append]); refine g_forget hcnt hle2 rfl ?_) | ((with_reducible apply g_pull_3); (with_reducible apply g_enter_bor 1); exact rfl; exact rfl; exact rfl; ((with_reducible apply e_call1); kernel_rfl; exact rfl); exact rfl; (first | exact fun w hw hO => word_ok rb s rest line hc hs hr hl w _ hw hm hO); (rintro v2 μ2 ⟨⟩ hle2 rfl); (dsimp only [List.cons_append, List.nil_append]); refine g_forget hcnt hle2 rfl ?_))) | (refine CF 18 ?_; (with_reducible apply g_enter_bor (Ls := fun i => [.inl ⟨i, 9, 13, idx 0 evV⟩]) 0); exact rfl; exact rfl; exact rfl; ((with_reducible apply e_call0); kernel_rfl); exact rfl; (exact fun w hw _ => events_spec w _ hw); (rintro v2 μ2 bev hle2 rfl); (dsimp only [List.cons_append, List.nil_append])) | refine KI ?_ | refine NB fun b => ?_ | ((refine KB ?_ ?_ <;> intro hp)) | refine KG ?_ | fail)
  refine gc_share_0 rfl ?_
  rintro μ3 hle3 hsh
  have hev : Sl encStr 1 μ3 (some ⟨bev, 0, none⟩) 13 (evT.map ofB) := Sl.of_own hsh (by decide +kernel) (fun i y hy j v hj => by
    have hi : i < 13 := by have := (List.getElem?_eq_some_iff.1 hy).1; have h13 : (evT.map ofB).length = 13 := by decide +kernel
                           omega
    rw [ev_get hi] at hy
    cases hy
    match j, hj with
    | 0, hj =>
      cases hj
      exact ev_lk hi)
  refine gc_loop (ι := Nat) (fun i => i ≤ 13) (fun i => 13 - i) (fun _ => μ3) (fun i => [(12, .int .i64 i), (11, .int .i64 (13 : Nat)), (10, .slice (some ⟨bev, 0, none⟩) 13 13), (4, .string (ofB x)), (3, .pointer (some ⟨bk, 0, none⟩)), (2, .pointer (some ⟨bq, 0, none⟩)), (0, .pointer (some ⟨rb, 0, none⟩))])
    (fun i => rdB rb (s, line, u1) ++ [.inl ⟨bk, 43, 5, [(0, .int .i64 (kF x i)), (1, .int .i64 0), (2, .int .i64 0), (3, .string ⟨#[]⟩), (4, .string ⟨#[]⟩)]⟩, .inl ⟨bq, 43, 5, idx 0 [.int .i64 0, .int .i64 0, .int .i64 0, .string ⟨#[]⟩, .string ⟨#[]⟩]⟩]) 0 (Nat.zero_le _) (fun a w hs => J5 hs) ?_
  intro i hi
  dsimp only [List.cons_append, List.nil_append]
  by_cases hlt : i < 13
  · obtain ⟨ad, y, hA, hy, hmy⟩ := hev.get hlt
    cases hA
    rw [ev_get hlt] at hy
    cases hy
    have hk1 : kF x (i + 1) = if evT.getD i [] = x then (i : Int) + 1 else kF x i := kF_succ x i
    by_cases he : evT.getD i [] = x
    · rw [if_pos he] at hk1
      have he' : ofB (evT.getD i []) = ofB x := by rw [he]
      repeat' (first | refine KO ?_ | (refine KV (b := by first | exact U1 i | exact U3 (hmy.at 0 rfl)) (c := ?_)) | refine KI ?_ | refine NB fun b => ?_ | ((refine KB ?_ ?_ <;> intro hp)) | refine KG ?_ | fail)
      all_goals first | (exfalso; omega) | exact absurd he' ‹_› | skip
      refine gq_backS (i + 1) (by omega) (by omega) rfl PU ?_
      rw [hk1]
      exact PS
    · rw [if_neg he] at hk1
      have he' : ¬ ofB (evT.getD i []) = ofB x := fun h => he (ofB_inj h)
      repeat' (first | refine KO ?_ | (refine KV (b := by first | exact U1 i | exact U3 (hmy.at 0 rfl)) (c := ?_)) | refine KI ?_ | refine NB fun b => ?_ | ((refine KB ?_ ?_ <;> intro hp)) | refine KG ?_ | fail)
      all_goals first | (exfalso; omega) | exact absurd ‹_› he' | skip
      refine gq_backS (i + 1) (by omega) (by omega) rfl PU ?_
      rw [hk1]
      exact PS
  · obtain rfl : i = 13 := by omega
    refine gc_forget hcnt (hle2.trans hle3) rfl ?_
    cases hf : findB evT' x with
    | none =>
      rw [kF_none hf]
      repeat' (first | ((with_reducible (first | apply gq_then_panic | apply gq_block_panic))) | refine KO ?_ | (refine CF 24 ?_; (with_reducible apply g_enter_pan 0); exact rfl; ((with_reducible apply e_call2); kernel_rfl; exact rfl; exact rfl); exact rfl; (first | (exact fun w hw _ => must_errb (decide_eq_false (by omega)) _ w _ hw))) | refine KI ?_ | refine NB fun b => ?_ | ((refine KB ?_ ?_ <;> intro hp)) | refine KG ?_ | fail)
      refine gq_sel (l' := []) (L' := rdB rb (s, line, u1)) PU PS ?_
      exact gq_panB (Ls := fun i : List UInt8 × List UInt8 => rdB rb (i.1, line, i.2)) 1 (s, u1) hcnt rfl rfl
    | some kind =>
      rw [hf] at h
      dsimp only at h
      obtain ⟨hkf, hkp⟩ := kF_some hf
      rw [hkf]
      cases hk : keyRd keyR u1 with
      | none =>
        repeat' (first | ((with_reducible (first | apply gq_then_panic | apply gq_block_panic))) | refine KO ?_ | ((with_reducible apply F1 24); exact rfl; exact EN; (first | (exact fun w μc hw hse => must_okb (decide_eq_true hkp) _ w μc hw))) | (refine CF 50 ?_; (first | ((with_reducible apply g_enter_panB 1); exact rfl; ((with_reducible apply e_call1); kernel_rfl; exact rfl); exact rfl; (first | exact fun w hw hO => key_err rb s u1 line hk hs hr1 hl w _ hw hm hT hO); (rintro μ2 i2 hle2); (dsimp only [List.cons_append, List.nil_append])) | ((with_reducible apply g_pull_1); (with_reducible apply g_enter_panB 1); exact rfl; ((with_reducible apply e_call1); kernel_rfl; exact rfl); exact rfl; (first | exact fun w hw hO => key_err rb s u1 line hk hs hr1 hl w _ hw hm hT hO); (rintro μ2 i2 hle2); (dsimp only [List.cons_append, List.nil_append])) | ((with_reducible apply g_pull_2); (with_reducible apply g_enter_panB 1); exact rfl; ((with_reducible apply e_call1); kernel_rfl; exact rfl); exact rfl; (first | exact fun w hw hO => key_err rb s u1 line hk hs hr1 hl w _ hw hm hT hO); (rintro μ2 i2 hle2); (dsimp only [List.cons_append, List.nil_append])) | ((with_reducible apply g_pull_3); (with_reducible apply g_enter_panB 1); exact rfl; ((with_reducible apply e_call1); kernel_rfl; exact rfl); exact rfl; (first | exact fun w hw hO => key_err rb s u1 line hk hs hr1 hl w _ hw hm hT hO); (rintro μ2 i2 hle2); (dsimp only [List.cons_append, List.nil_append])))) | refine KI ?_ | refine NB fun b => ?_ | ((refine KB ?_ ?_ <;> intro hp)) | refine KG ?_ | fail)
        refine gq_sel (l' := []) (L' := rdB rb (i2.1, line, i2.2)) PU PS ?_
        exact gq_panB (Ls := fun i : List UInt8 × List UInt8 => rdB rb (i.1, line, i.2)) 1 (i2.1, i2.2) hcnt rfl rfl
      | some q =>
        obtain ⟨k, v⟩ := q
        rw [hk] at h
        dsimp only at h
        have hrv : v.length ≤ 100000 := by have := key_len hk; omega
        have ht : lastB v = none := by
          cases ht : lastB v with
          | none => rfl
          | some t => rw [ht] at h; cases h
        repeat' (first | ((with_reducible (first | apply gq_then_panic | apply gq_block_panic))) | refine KO ?_ | ((with_reducible apply F1 24); exact rfl; exact EN; (first | (exact fun w μc hw hse => must_okb (decide_eq_true hkp) _ w μc hw))) | (refine CF 50 ?_; (first | ((with_reducible apply g_enter_bor 1); exact rfl; exact rfl; exact rfl; ((with_reducible apply e_call1); kernel_rfl; exact rfl); exact rfl; (first | exact fun w hw hO => key_ok rb s u1 line hk hs hr1 hl w _ hw hm hT hO); (rintro v2 μ2 ⟨⟩ hle2 rfl); (dsimp only [List.cons_append, List.nil_append]); refine g_forget hcnt hle2 rfl ?_) | ((with_reducible apply g_pull_1); (with_reducible apply g_enter_bor 1); exact rfl; exact rfl; exact rfl; ((with_reducible apply e_call1); kernel_rfl; exact rfl); exact rfl; (first | exact fun w hw hO => key_ok rb s u1 line hk hs hr1 hl w _ hw hm hT hO); (rintro v2 μ2 ⟨⟩ hle2 rfl); (dsimp only [List.cons_append, List.nil_append]); refine g_forget hcnt hle2 rfl ?_) | ((with_reducible apply g_pull_2); (with_reducible apply g_enter_bor 1); exact rfl; exact rfl; exact rfl; ((with_reducible apply e_call1); kernel_rfl; exact rfl); exact rfl; (first | exact fun w hw hO => key_ok rb s u1 line hk hs hr1 hl w _ hw hm hT hO); (rintro v2 μ2 ⟨⟩ hle2 rfl); (dsimp only [List.cons_append, List.nil_append]); refine g_forget hcnt hle2 rfl ?_) | ((with_reducible apply g_pull_3); (with_reducible apply g_enter_bor 1); exact rfl; exact rfl; exact rfl; ((with_reducible apply e_call1); kernel_rfl; exact rfl); exact rfl; (first | exact fun w hw hO => key_ok rb s u1 line hk hs hr1 hl w _ hw hm hT hO); (rintro v2 μ2 ⟨⟩ hle2 rfl); (dsimp only [List.cons_append, List.nil_append]); refine g_forget hcnt hle2 rfl ?_))) | (refine CF 25 ?_; (first | ((with_reducible apply g_enter_panB 1); exact rfl; ((with_reducible apply e_call1); kernel_rfl; exact rfl); exact rfl; (first | exact fun w hw hO => last_err rb s v line ht hs hrv hl w _ hw hm hO); (rintro μ2 i2 hle2); (dsimp only [List.cons_append, List.nil_append])) | ((with_reducible apply g_pull_1); (with_reducible apply g_enter_panB 1); exact rfl; ((with_reducible apply e_call1); kernel_rfl; exact rfl); exact rfl; (first | exact fun w hw hO => last_err rb s v line ht hs hrv hl w _ hw hm hO); (rintro μ2 i2 hle2); (dsimp only [List.cons_append, List.nil_append])) | ((with_reducible apply g_pull_2); (with_reducible apply g_enter_panB 1); exact rfl; ((with_reducible apply e_call1); kernel_rfl; exact rfl); exact rfl; (first | exact fun w hw hO => last_err rb s v line ht hs hrv hl w _ hw hm hO); (rintro μ2 i2 hle2); (dsimp only [List.cons_append, List.nil_append])) | ((with_reducible apply g_pull_3); (with_reducible apply g_enter_panB 1); exact rfl; ((with_reducible apply e_call1); kernel_rfl; exact rfl); exact rfl; (first | exact fun w hw hO => last_err rb s v line ht hs hrv hl w _ hw hm hO); (rintro μ2 i2 hle2); (dsimp only [List.cons_append, List.nil_append])))) | refine KI ?_ | refine NB fun b => ?_ | ((refine KB ?_ ?_ <;> intro hp)) | refine KG ?_ | fail)
        refine gq_sel (l' := []) (L' := rdB rb (i2.1, line, i2.2)) PU PS ?_
        exact gq_panB (Ls := fun i : List UInt8 × List UInt8 => rdB rb (i.1, line, i.2)) 1 (i2.1, i2.2) hcnt rfl rfl
end Go.Proofs.YtmihpkdhfomcgaaGreatDoor
