/- Package outcome: the reader's keys. No statement of the seat is proved here. -/
import Derived.Test.YtmihpkdhfomcgaaDoorOu10
import Derived.Test.YtmihpkdhfomcgaaDoorKey1
import Derived.Test.YtmihpkdhfomcgaaDoorSt
set_option maxRecDepth 20000
set_option maxHeartbeats 2000000
namespace Go.Proofs.YtmihpkdhfomcgaaDoor
open Go.RowKit Go.Vcg Ou
/-- a valid key -/
def keyR (k : KeyP) : Bool :=
  if k.kind = 0 then decide (k.s = ⟨#[]⟩) && (decide (0 ≤ k.n) && decide (k.n ≤ 4294967294))
  else if k.kind = 1 then decide (k.n = 0) && (decide (k.s.size ≤ 65536) && !(idxF (bl k.s)).2)
  else if k.kind = 2 then decide (k.s = ⟨#[]⟩) && decide (1 ≤ k.n) else false
theorem keyR_shaped : Shaped keyR := by
  intro k h
  unfold keyR at h
  split at h
  · rename_i hk
    simp only [Bool.and_eq_true, decide_eq_true_eq] at h
    exact .inl ⟨hk, h.1⟩
  split at h
  · rename_i hk
    simp only [Bool.and_eq_true, decide_eq_true_eq] at h
    exact .inr (.inl ⟨hk, h.1⟩)
  split at h
  · rename_i hk
    simp only [Bool.and_eq_true, decide_eq_true_eq] at h
    exact .inr (.inr ⟨hk, h.1⟩)
  · cases h
abbrev encK (k : KeyP) : List Value := [.int .i64 k.kind, .int .i64 k.n, .string k.s]
attribute [local irreducible] G GC GQ GA GAop Calls IntKind.wrap Int.decLt Int.decLe idxF
theorem keyRight_spec (k : KeyP) (hs : k.s.size ≤ 9223372036854775807) (w : World) (μ : Mem) (hμ : MOk μ w) :
    Calls Tryd.prog 29 #[.agg (encK k).toArray] w fun e w' => e = .returned (.bool (keyR k)) ∧ Below w.heap.size w w' := by
  refine call_intro (args := [.agg (encK k).toArray]) Tryd.func29 rfl Tryd.ntmps29 (by simp) hμ ?_
  have hix := fun (w : World) (μ : Mem) (hμ : MOk μ w) => index_spec w μ hμ k.s hs
  by_cases h0 : k.kind = 0
  · rw [show keyR k = (decide (k.s = ⟨#[]⟩) && (decide (0 ≤ k.n) && decide (k.n ≤ 4294967294))) by unfold keyR; rw [if_pos h0]]
    by_cases c1 : k.s = ⟨#[]⟩ <;> by_cases c2 : 0 ≤ k.n
    all_goals repeat' (first | refine KK ?_ | refine NB fun b => ?_ | ((refine KB ?_ ?_ <;> intro hp)) | refine KG ?_ | fail)
    all_goals first | (exfalso; omega) | exact absurd c1 ‹_› | exact absurd ‹_› c1 | (refine ret_s rfl rfl ?_; simp [c1, c2]; done) | (refine ret_s rfl rfl ?_; simp [c1]; omega)
  by_cases h1 : k.kind = 1
  · rw [show keyR k = (decide (k.n = 0) && (decide (k.s.size ≤ 65536) && !(idxF (bl k.s)).2)) by unfold keyR; rw [if_neg h0, if_pos h1]]
    generalize (idxF (bl k.s)).2 = ix at hix
    by_cases c1 : k.n = 0 <;> by_cases c2 : k.s.size ≤ 65536
    all_goals cases ix
    all_goals repeat' (first | refine KO ?_ | ((with_reducible apply F1 42); exact rfl; exact EN; (exact fun w μc hw hse => hix w μc hw)) | refine KI ?_ | refine NB fun b => ?_ | ((refine KB ?_ ?_ <;> intro hp)) | refine KG ?_ | fail)
    all_goals first | (exfalso; omega) | (refine ret_s rfl rfl ?_; simp [c1, c2]; done)
  by_cases h2 : k.kind = 2
  · rw [show keyR k = (decide (k.s = ⟨#[]⟩) && decide (1 ≤ k.n)) by unfold keyR; rw [if_neg h0, if_neg h1, if_pos h2]]
    by_cases c1 : k.s = ⟨#[]⟩ <;> by_cases c2 : 1 ≤ k.n
    all_goals repeat' (first | refine KK ?_ | refine NB fun b => ?_ | ((refine KB ?_ ?_ <;> intro hp)) | refine KG ?_ | fail)
    all_goals first | (exfalso; omega) | exact absurd c1 ‹_› | exact absurd ‹_› c1 | (refine ret_s rfl rfl ?_; simp [c1, c2]; done)
  · rw [show keyR k = false by unfold keyR; rw [if_neg h0, if_neg h1, if_neg h2]]
    repeat' (first | refine KK ?_ | refine NB fun b => ?_ | ((refine KB ?_ ?_ <;> intro hp)) | refine KG ?_ | fail)
    all_goals first | (exfalso; omega) | exact ret_s rfl rfl rfl
theorem number_at {d : List UInt8} {n : Int} (h : numB d = some n) (hs : d.length ≤ 1000000) (w : World) (μ : Mem) (hμ : MOk μ w) (hT : TabOk μ) :
    Calls Tryd.prog 26 #[.string (ofB d)] w fun en w' => en = .returned (.int .i64 n) ∧ Below w.heap.size w w' :=
  number_ok (by rw [ofB_size]; exact hs) (by rw [byS_ofB]; exact h) w μ hμ hT
theorem number_no {d : List UInt8} (h : numB d = none) (hs : d.length ≤ 1000000) (w : World) (μ : Mem) (hμ : MOk μ w) (hT : TabOk μ) :
    Calls Tryd.prog 26 #[.string (ofB d)] w fun en w' => en = .panicked (pan (failO 7)) ∧ GrowM [] w w' μ μ :=
  number_err (by rw [ofB_size]; exact hs) (by rw [byS_ofB]; exact h) w μ hμ hT
theorem pre_at (l : List UInt8) (hs : l.length ≤ 1000000) (w : World) (μ : Mem) (hμ : MOk μ w) :
    Calls Tryd.prog 52 #[.string (ofB l), .string ⟨#[32]⟩] w fun e w' => e = .returned (.bool (decide (l.head? = some 32))) ∧ Below w.heap.size w w' := by
  have := hasPrefix_spec (ofB l) ⟨#[32]⟩ (by rw [ofB_size]; omega) (by decide) w μ hμ
  rw [bl_ofB] at this
  have he : decide (l.take (ByteArray.size ⟨#[32]⟩) = bl ⟨#[32]⟩) = decide (l.head? = some 32) := by
    rw [Bool.eq_iff_iff, decide_eq_true_eq, decide_eq_true_eq]
    show l.take 1 = [32] ↔ _
    cases l <;> simp
  rw [he] at this
  exact this
theorem len_cut1 {c : UInt8} {l a b : List UInt8} (h : Ou.cutB c l = some (a, b)) : a.length + b.length + 1 = l.length := by
  rw [(cutB_some h).1, List.length_append, List.length_cons]; omega
theorem len_quoted {l t u : List UInt8} (h : quotedB l = some (t, u)) : u.length ≤ l.length ∧ t.length ≤ 65536 := ⟨(readL_suf (quotedB_ok h).1).2, (quotedB_ok h).2.2⟩
theorem key_cases {R : KeyP → Bool} {rest u : List UInt8} {k : KeyP} (h : keyRd R rest = some (k, u)) : ∃ w u1, Ou.cutB 32 rest = some (w, u1) ∧ R k = true ∧
    ((w = [105, 110, 100, 101, 120] ∧ ∃ d n, Ou.cutB 32 u1 = some (d, u) ∧ numB d = some n ∧ k = ⟨0, n, ⟨#[]⟩⟩) ∨ (w = [116, 101, 120, 116] ∧ ∃ t, quotedB u1 = some (t, 32 :: u) ∧ k = ⟨1, 0, ofB t⟩) ∨
     (w = [115, 121, 109, 98, 111, 108] ∧ ∃ d n, Ou.cutB 32 u1 = some (d, u) ∧ numB d = some n ∧ k = ⟨2, n, ⟨#[]⟩⟩)) := by
  unfold keyRd at h
  split at h
  · cases h
  rename_i x u1 hc
  split at h
  · rename_i k' v hk
    split at h
    · rename_i hR
      cases h
      refine ⟨x, u1, hc, hR, ?_⟩
      unfold Ou.keyOf at hk
      split at hk
      · rename_i hx
        split at hk
        · cases hk
        rename_i d v2 hc2
        cases hn : numB d with
        | none => rw [hn] at hk; cases hk
        | some n =>
          rw [hn] at hk
          cases hk
          exact .inl ⟨hx, d, n, hc2, hn, rfl⟩
      split at hk
      · rename_i hx
        split at hk
        · rename_i t c v2 hq
          split at hk
          · rename_i h32
            cases hk
            exact .inr (.inl ⟨hx, t, by rw [← h32]; exact hq, rfl⟩)
          · cases hk
        · cases hk
      split at hk
      · rename_i hx
        split at hk
        · cases hk
        rename_i d v2 hc2
        cases hn : numB d with
        | none => rw [hn] at hk; cases hk
        | some n =>
          rw [hn] at hk
          cases hk
          exact .inr (.inr ⟨hx, d, n, hc2, hn, rfl⟩)
      · cases hk
    · cases h
  · cases h
theorem key_ok {k : KeyP} {u : List UInt8} (rb : Nat) (s rest : List UInt8) (line : Int) (h : keyRd keyR rest = some (k, u)) (hs : s.length ≤ 100000) (hr : rest.length ≤ 100000) (hl : 0 ≤ line ∧ line ≤ 100000) (w : World) (μ : Mem) (hμ : MOk μ w) (hm : MaxOk μ) (hT : TabOk μ) (hO : Go.Vcg.Own μ (rdB rb (s, line, rest)) w) :
    Calls Tryd.prog 41 #[.pointer (some ⟨rb, 0, none⟩)] w (RdK (idsOf (rdB rb (s, line, rest))) w μ rb (s, line, u) fun v => v = .agg (encK k).toArray) := by
  obtain ⟨x, u1, hc, hR, hk⟩ := key_cases h
  have hl1 := len_cut1 hc
  have hr1 : u1.length ≤ 100000 := by omega
  have hcnt := ids_count hO.diff
  refine call_introM (args := [.pointer (some ⟨rb, 0, none⟩)]) Tryd.func41 rfl Tryd.ntmps41 (by simp) hμ hO ?_
  show GC _ _ _ _ _ _ [.inl ⟨rb, 36, 3, [(0, .string (ofB s)), (1, .int .i64 line), (2, .string (ofB rest))]⟩]
  repeat' (first | ((with_reducible show GC _ _ (Code.seq (Code.region 1 _ _) _) _ _ _ _); (apply gc_stop)) | refine KK ?_ | refine NB fun b => ?_ | ((refine KB ?_ ?_ <;> intro hp)) | refine KG ?_ | fail)
  obtain ⟨bq, hbq⟩ : ∃ x, x = b := ⟨_, rfl⟩
  rw [← hbq]
  clear hbq
  refine gcs ?_
  repeat' (first | ((with_reducible show GC _ _ (Code.seq (Code.region 2 _ _) _) _ _ _ _); (apply gc_stop)) | refine KK ?_ | refine NB fun b => ?_ | ((refine KB ?_ ?_ <;> intro hp)) | refine KG ?_ | fail)
  obtain ⟨bk, hbk⟩ : ∃ x, x = b := ⟨_, rfl⟩
  rw [← hbk]
  clear hbk
  refine gcs ?_
  rcases hk with ⟨hx, d, n, hc2, hn, hkk⟩ | ⟨hx, t, hq, hkk⟩ | ⟨hx, d, n, hc2, hn, hkk⟩
  · have hl2 := len_cut1 hc2
    subst hx
    subst hkk
    repeat' (first | refine KO ?_ | (refine CF 21 ?_; (first | ((with_reducible apply g_enter_bor 1); exact rfl; exact rfl; exact rfl; ((with_reducible apply e_call1); kernel_rfl; exact rfl); exact rfl; (first | exact fun w hw hO => word_ok rb s rest line hc hs hr hl w _ hw hm hO | exact fun w hw hO => word_ok rb s u1 line hc2 hs hr1 hl w _ hw hm hO); (rintro v2 μ2 ⟨⟩ hle2 rfl); (dsimp only [List.cons_append, List.nil_append]); refine g_forget hcnt hle2 rfl ?_) | ((with_reducible apply g_pull_1); (with_reducible apply g_enter_bor 1); exact rfl; exact rfl; exact rfl; ((with_reducible apply e_call1); kernel_rfl; exact rfl); exact rfl; (first | exact fun w hw hO => word_ok rb s rest line hc hs hr hl w _ hw hm hO | exact fun w hw hO => word_ok rb s u1 line hc2 hs hr1 hl w _ hw hm hO); (rintro v2 μ2 ⟨⟩ hle2 rfl); (dsimp only [List.cons_append, List.nil_append]); refine g_forget hcnt hle2 rfl ?_) | ((with_reducible apply g_pull_2); (with_reducible apply g_enter_bor 1); exact rfl; exact rfl; exact rfl; ((with_reducible apply e_call1); kernel_rfl; exact rfl); exact rfl; (first | exact fun w hw hO => word_ok rb s rest line hc hs hr hl w _ hw hm hO | exact fun w hw hO => word_ok rb s u1 line hc2 hs hr1 hl w _ hw hm hO); (rintro v2 μ2 ⟨⟩ hle2 rfl); (dsimp only [List.cons_append, List.nil_append]); refine g_forget hcnt hle2 rfl ?_) | ((with_reducible apply g_pull_3); (with_reducible apply g_enter_bor 1); exact rfl; exact rfl; exact rfl; ((with_reducible apply e_call1); kernel_rfl; exact rfl); exact rfl; (first | exact fun w hw hO => word_ok rb s rest line hc hs hr hl w _ hw hm hO | exact fun w hw hO => word_ok rb s u1 line hc2 hs hr1 hl w _ hw hm hO); (rintro v2 μ2 ⟨⟩ hle2 rfl); (dsimp only [List.cons_append, List.nil_append]); refine g_forget hcnt hle2 rfl ?_))) | ((with_reducible apply F1 26); exact rfl; exact EN; (exact fun w μc hw hse => number_at hn (by omega) w μc hw (hT.mono hse.le))) | ((with_reducible apply F1 29); exact rfl; exact EN; (first | (exact fun w μc hw hse => keyRight_spec ⟨0, n, ⟨#[]⟩⟩ (by show 0 ≤ _; omega) w μc hw) | (exact fun w μc hw hse => keyRight_spec ⟨2, n, ⟨#[]⟩⟩ (by show 0 ≤ _; omega) w μc hw) | (exact fun w μc hw hse => keyRight_spec ⟨1, 0, ofB t⟩ (by show (ofB t).size ≤ _; rw [ofB_size]; omega) w μc hw))) | ((with_reducible apply F1 23); exact rfl; exact EN; (first | (exact fun w μc hw hse => must_okb hR _ w μc hw))) | refine KI ?_ | refine NB fun b => ?_ | ((refine KB ?_ ?_ <;> intro hp)) | refine KG ?_ | fail)
    refine gq_sel (l' := [(2, .pointer (some ⟨bq, 0, none⟩))]) (L' := rdB rb (s, line, u) ++ [.inl ⟨bq, 46, 3, idx 0 (encK ⟨0, n, ⟨#[]⟩⟩)⟩]) PU PS ?_
    exact ret_bor (Post := fun _ r _ => r = .agg (encK ⟨0, n, ⟨#[]⟩⟩).toArray) (Ls := fun _ : Unit => rdB rb (s, line, u)) 1 () hcnt rfl (rv_agg 1 rfl rfl rfl rfl rfl (by repeat first | exact lc_nil | refine lc_cons rfl ?_)) rfl rfl (fun _ _ => rfl)
  · have hl2 := len_quoted hq
    subst hx
    subst hkk
    have hpre : (32 :: u : List UInt8).head? = some 32 := rfl
    have hext : (ofB (32 :: u)).extract 1 (ofB (32 :: u)).size = ofB u := by rw [ext_drop]; rfl
    have hsz := ofB_size (32 :: u)
    have hlu : (32 :: u : List UInt8).length = u.length + 1 := rfl
    repeat' (first | refine KO ?_ | (refine CF 21 ?_; (first | ((with_reducible apply g_enter_bor 1); exact rfl; exact rfl; exact rfl; ((with_reducible apply e_call1); kernel_rfl; exact rfl); exact rfl; (first | exact fun w hw hO => word_ok rb s rest line hc hs hr hl w _ hw hm hO | exact fun w hw hO => word_ok rb s u1 line hc2 hs hr1 hl w _ hw hm hO); (rintro v2 μ2 ⟨⟩ hle2 rfl); (dsimp only [List.cons_append, List.nil_append]); refine g_forget hcnt hle2 rfl ?_) | ((with_reducible apply g_pull_1); (with_reducible apply g_enter_bor 1); exact rfl; exact rfl; exact rfl; ((with_reducible apply e_call1); kernel_rfl; exact rfl); exact rfl; (first | exact fun w hw hO => word_ok rb s rest line hc hs hr hl w _ hw hm hO | exact fun w hw hO => word_ok rb s u1 line hc2 hs hr1 hl w _ hw hm hO); (rintro v2 μ2 ⟨⟩ hle2 rfl); (dsimp only [List.cons_append, List.nil_append]); refine g_forget hcnt hle2 rfl ?_) | ((with_reducible apply g_pull_2); (with_reducible apply g_enter_bor 1); exact rfl; exact rfl; exact rfl; ((with_reducible apply e_call1); kernel_rfl; exact rfl); exact rfl; (first | exact fun w hw hO => word_ok rb s rest line hc hs hr hl w _ hw hm hO | exact fun w hw hO => word_ok rb s u1 line hc2 hs hr1 hl w _ hw hm hO); (rintro v2 μ2 ⟨⟩ hle2 rfl); (dsimp only [List.cons_append, List.nil_append]); refine g_forget hcnt hle2 rfl ?_) | ((with_reducible apply g_pull_3); (with_reducible apply g_enter_bor 1); exact rfl; exact rfl; exact rfl; ((with_reducible apply e_call1); kernel_rfl; exact rfl); exact rfl; (first | exact fun w hw hO => word_ok rb s rest line hc hs hr hl w _ hw hm hO | exact fun w hw hO => word_ok rb s u1 line hc2 hs hr1 hl w _ hw hm hO); (rintro v2 μ2 ⟨⟩ hle2 rfl); (dsimp only [List.cons_append, List.nil_append]); refine g_forget hcnt hle2 rfl ?_))) | (refine CF 39 ?_; (first | ((with_reducible apply g_enter_bor 1); exact rfl; exact rfl; exact rfl; ((with_reducible apply e_call1); kernel_rfl; exact rfl); exact rfl; (first | exact fun w hw hO => quoted_ok rb s u1 line hq hs hr1 hl w _ hw hm hO); (rintro v2 μ2 ⟨⟩ hle2 rfl); (dsimp only [List.cons_append, List.nil_append]); refine g_forget hcnt hle2 rfl ?_) | ((with_reducible apply g_pull_1); (with_reducible apply g_enter_bor 1); exact rfl; exact rfl; exact rfl; ((with_reducible apply e_call1); kernel_rfl; exact rfl); exact rfl; (first | exact fun w hw hO => quoted_ok rb s u1 line hq hs hr1 hl w _ hw hm hO); (rintro v2 μ2 ⟨⟩ hle2 rfl); (dsimp only [List.cons_append, List.nil_append]); refine g_forget hcnt hle2 rfl ?_) | ((with_reducible apply g_pull_2); (with_reducible apply g_enter_bor 1); exact rfl; exact rfl; exact rfl; ((with_reducible apply e_call1); kernel_rfl; exact rfl); exact rfl; (first | exact fun w hw hO => quoted_ok rb s u1 line hq hs hr1 hl w _ hw hm hO); (rintro v2 μ2 ⟨⟩ hle2 rfl); (dsimp only [List.cons_append, List.nil_append]); refine g_forget hcnt hle2 rfl ?_) | ((with_reducible apply g_pull_3); (with_reducible apply g_enter_bor 1); exact rfl; exact rfl; exact rfl; ((with_reducible apply e_call1); kernel_rfl; exact rfl); exact rfl; (first | exact fun w hw hO => quoted_ok rb s u1 line hq hs hr1 hl w _ hw hm hO); (rintro v2 μ2 ⟨⟩ hle2 rfl); (dsimp only [List.cons_append, List.nil_append]); refine g_forget hcnt hle2 rfl ?_))) | ((with_reducible apply F1 52); exact rfl; exact EN; (exact fun w μc hw hse => pre_at (32 :: u) (by omega) w μc hw)) | ((with_reducible apply F1 29); exact rfl; exact EN; (first | (exact fun w μc hw hse => keyRight_spec ⟨0, n, ⟨#[]⟩⟩ (by show 0 ≤ _; omega) w μc hw) | (exact fun w μc hw hse => keyRight_spec ⟨2, n, ⟨#[]⟩⟩ (by show 0 ≤ _; omega) w μc hw) | (exact fun w μc hw hse => keyRight_spec ⟨1, 0, ofB t⟩ (by show (ofB t).size ≤ _; rw [ofB_size]; omega) w μc hw))) | ((with_reducible apply F1 23); exact rfl; exact EN; (first | (exact fun w μc hw hse => must_okb hR _ w μc hw) | (exact fun w μc hw hse => must_okb (decide_eq_true hpre) _ w μc hw))) | (refine KV (b := by first | ((with_reducible apply v_str_lo 1); exact rfl; exact rfl; exact rfl; exact rfl; omega)) (c := ?_)) | refine KI ?_ | refine NB fun b => ?_ | ((refine KB ?_ ?_ <;> intro hp)) | refine KG ?_ | fail)
    rw [hext]
    refine gq_sel (l' := [(2, .pointer (some ⟨bq, 0, none⟩))]) (L' := rdB rb (s, line, u) ++ [.inl ⟨bq, 46, 3, idx 0 (encK ⟨1, 0, ofB t⟩)⟩]) PU PS ?_
    exact ret_bor (Post := fun _ r _ => r = .agg (encK ⟨1, 0, ofB t⟩).toArray) (Ls := fun _ : Unit => rdB rb (s, line, u)) 1 () hcnt rfl (rv_agg 1 rfl rfl rfl rfl rfl (by repeat first | exact lc_nil | refine lc_cons rfl ?_)) rfl rfl (fun _ _ => rfl)
  · have hl2 := len_cut1 hc2
    subst hx
    subst hkk
    repeat' (first | refine KO ?_ | (refine CF 21 ?_; (first | ((with_reducible apply g_enter_bor 1); exact rfl; exact rfl; exact rfl; ((with_reducible apply e_call1); kernel_rfl; exact rfl); exact rfl; (first | exact fun w hw hO => word_ok rb s rest line hc hs hr hl w _ hw hm hO | exact fun w hw hO => word_ok rb s u1 line hc2 hs hr1 hl w _ hw hm hO); (rintro v2 μ2 ⟨⟩ hle2 rfl); (dsimp only [List.cons_append, List.nil_append]); refine g_forget hcnt hle2 rfl ?_) | ((with_reducible apply g_pull_1); (with_reducible apply g_enter_bor 1); exact rfl; exact rfl; exact rfl; ((with_reducible apply e_call1); kernel_rfl; exact rfl); exact rfl; (first | exact fun w hw hO => word_ok rb s rest line hc hs hr hl w _ hw hm hO | exact fun w hw hO => word_ok rb s u1 line hc2 hs hr1 hl w _ hw hm hO); (rintro v2 μ2 ⟨⟩ hle2 rfl); (dsimp only [List.cons_append, List.nil_append]); refine g_forget hcnt hle2 rfl ?_) | ((with_reducible apply g_pull_2); (with_reducible apply g_enter_bor 1); exact rfl; exact rfl; exact rfl; ((with_reducible apply e_call1); kernel_rfl; exact rfl); exact rfl; (first | exact fun w hw hO => word_ok rb s rest line hc hs hr hl w _ hw hm hO | exact fun w hw hO => word_ok rb s u1 line hc2 hs hr1 hl w _ hw hm hO); (rintro v2 μ2 ⟨⟩ hle2 rfl); (dsimp only [List.cons_append, List.nil_append]); refine g_forget hcnt hle2 rfl ?_) | ((with_reducible apply g_pull_3); (with_reducible apply g_enter_bor 1); exact rfl; exact rfl; exact rfl; ((with_reducible apply e_call1); kernel_rfl; exact rfl); exact rfl; (first | exact fun w hw hO => word_ok rb s rest line hc hs hr hl w _ hw hm hO | exact fun w hw hO => word_ok rb s u1 line hc2 hs hr1 hl w _ hw hm hO); (rintro v2 μ2 ⟨⟩ hle2 rfl); (dsimp only [List.cons_append, List.nil_append]); refine g_forget hcnt hle2 rfl ?_))) | ((with_reducible apply F1 26); exact rfl; exact EN; (exact fun w μc hw hse => number_at hn (by omega) w μc hw (hT.mono hse.le))) | ((with_reducible apply F1 29); exact rfl; exact EN; (first | (exact fun w μc hw hse => keyRight_spec ⟨0, n, ⟨#[]⟩⟩ (by show 0 ≤ _; omega) w μc hw) | (exact fun w μc hw hse => keyRight_spec ⟨2, n, ⟨#[]⟩⟩ (by show 0 ≤ _; omega) w μc hw) | (exact fun w μc hw hse => keyRight_spec ⟨1, 0, ofB t⟩ (by show (ofB t).size ≤ _; rw [ofB_size]; omega) w μc hw))) | ((with_reducible apply F1 23); exact rfl; exact EN; (first | (exact fun w μc hw hse => must_okb hR _ w μc hw))) | refine KI ?_ | refine NB fun b => ?_ | ((refine KB ?_ ?_ <;> intro hp)) | refine KG ?_ | fail)
    refine gq_sel (l' := [(2, .pointer (some ⟨bq, 0, none⟩))]) (L' := rdB rb (s, line, u) ++ [.inl ⟨bq, 46, 3, idx 0 (encK ⟨2, n, ⟨#[]⟩⟩)⟩]) PU PS ?_
    exact ret_bor (Post := fun _ r _ => r = .agg (encK ⟨2, n, ⟨#[]⟩⟩).toArray) (Ls := fun _ : Unit => rdB rb (s, line, u)) 1 () hcnt rfl (rv_agg 1 rfl rfl rfl rfl rfl (by repeat first | exact lc_nil | refine lc_cons rfl ?_)) rfl rfl (fun _ _ => rfl)
end Go.Proofs.YtmihpkdhfomcgaaDoor
