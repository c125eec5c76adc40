/- Package outcome: the reader's lines, words and strings. No statement of the seat is proved here. -/
import Derived.Test.YtmihpkdhfomcgaaDoorOu9
import Derived.Test.YtmihpkdhfomcgaaDoorSt
set_option maxRecDepth 20000
set_option maxHeartbeats 2000000
namespace Go.Proofs.YtmihpkdhfomcgaaDoor
open Go.RowKit Go.Vcg Ou
abbrev RS3 := List UInt8 × Int × List UInt8
abbrev rdB (rb : Nat) (S : RS3) : List Bk := [.inl ⟨rb, 36, 3, [(0, .string (ofB S.1)), (1, .int .i64 S.2.1), (2, .string (ofB S.2.2))]⟩]
/-- a reader's method returns: the reader is then known -/
abbrev RdK (M : List Nat) (w : World) (μ : Mem) (rb : Nat) (S : RS3) (P : Value → Prop) (en : Ending) (w' : World) : Prop := ∃ (r : Value) (μ' : Mem) (i : Unit), en = .returned r ∧ BackM M w w' μ (rdB rb S) μ' ∧ P r
/-- .. or panics: the line that it stands at is known -/
abbrev RdE (M : List Nat) (w : World) (μ : Mem) (rb : Nat) (line e : Int) (en : Ending) (w' : World) : Prop := ∃ (μ' : Mem) (i : List UInt8 × List UInt8), en = .panicked (pan (failO e)) ∧ BackM M w w' μ (rdB rb (i.1, line, i.2)) μ'
theorem cut_ok {c : UInt8} {l a b : List UInt8} (h : Ou.cutB c l = some (a, b)) (hs : l.length ≤ 1000000) (w : World) (μ : Mem) (hμ : MOk μ w) (hm : MaxOk μ) :
    Calls Tryd.prog 38 #[.string (ofB l), .string (ofB [c])] w fun e w' => e = .returned (.tuple #[.string (ofB a), .string (ofB b), .bool true]) ∧ Below w.heap.size w w' := by
  have := cut_spec c l hs w μ hμ hm
  unfold cutV at this
  rw [h] at this
  exact this
theorem cut_no {c : UInt8} {l : List UInt8} (h : Ou.cutB c l = none) (hs : l.length ≤ 1000000) (w : World) (μ : Mem) (hμ : MOk μ w) (hm : MaxOk μ) :
    Calls Tryd.prog 38 #[.string (ofB l), .string (ofB [c])] w fun e w' => e = .returned (.tuple #[.string (ofB l), .string (ofB []), .bool false]) ∧ Below w.heap.size w w' := by
  have := cut_spec c l hs w μ hμ hm
  unfold cutV at this
  rw [h] at this
  exact this
theorem ofB_inj {a b : List UInt8} (h : ofB a = ofB b) : a = b := by rw [← byS_ofB a, h, byS_ofB]
theorem ext_take (l : List UInt8) (k : Nat) : (ofB l).extract 0 k = ofB (l.take k) := bl_inj (by rw [bl_extract, bl_ofB, bl_ofB, List.drop_zero, Nat.sub_zero])
theorem ext_drop (l : List UInt8) (k : Nat) : (ofB l).extract k (ofB l).size = ofB (l.drop k) := bl_inj (by rw [bl_extract, bl_ofB, bl_ofB, ofB_size, List.take_of_length_le (by rw [List.length_drop]; omega)])
theorem litB_suf (q : UInt8) : ∀ (f : Nat) (l out t u : List UInt8), litB q f l out = .ok (t, u) → ∃ n, n ≤ l.length ∧ u = l.drop n
  | 0, _, _, _, _, h => by cases h
  | _ + 1, [], _, _, _, h => by cases h
  | f + 1, c :: r, out, t, u, h => by
    unfold litB at h
    split at h
    · cases h; exact ⟨1, by simp, rfl⟩
    split at h
    · cases h
    split at h
    · cases h
    · rename_i b u0 ho
      split at h
      · cases h
      · obtain ⟨n, hn, rfl⟩ := litB_suf q f u0 _ t u h
        obtain ⟨m, rfl⟩ := oneB_suf ho
        rw [List.length_drop] at hn
        by_cases hm : m ≤ r.length
        · exact ⟨m + n + 1, by rw [List.length_cons]; omega, by rw [List.drop_drop]; rfl⟩
        · have h0 : n = 0 := by omega
          subst h0
          refine ⟨r.length + 1, by simp, ?_⟩
          rw [List.drop_zero, List.drop_eq_nil_of_le (by omega), List.drop_eq_nil_of_le (by simp)]
theorem readL_suf {l t u : List UInt8} (h : readL l = .ok (t, u)) : u = l.drop (l.length - u.length) ∧ u.length ≤ l.length := by
  unfold readL at h
  split at h
  · cases h
  · rename_i q r
    split at h
    · obtain ⟨n, hn, rfl⟩ := litB_suf _ _ _ _ _ _ h
      rw [List.length_drop, List.length_cons]
      refine ⟨?_, by omega⟩
      rw [show r.length + 1 - (r.length - n) = n + 1 by omega]
      rfl
    · cases h
theorem quote_cond {l t u : List UInt8} (h : readL l = .ok (t, u)) : (ofB (quoteB t) = (ofB l).extract 0 (l.length - u.length)) ↔ quoteB t ++ u = l := by
  obtain ⟨h1, h2⟩ := readL_suf h
  rw [ext_take]
  constructor
  · intro he
    rw [ofB_inj he]
    have := List.take_append_drop (l.length - u.length) l
    rw [← h1] at this
    exact this
  · intro he
    congr 1
    have : (quoteB t).length = l.length - u.length := by rw [← he, List.length_append]; omega
    rw [← he, List.length_append, show (quoteB t).length + u.length - u.length = (quoteB t).length by omega, List.take_left]
theorem litB_err (q : UInt8) : ∀ (f : Nat) (l out : List UInt8) (e : Int), litB q f l out = .error e → ¬ e = 0
  | 0, _, _, _, h => by cases h; decide
  | _ + 1, [], _, _, h => by cases h; decide
  | f + 1, c :: r, out, e, h => by
    unfold litB at h
    split at h
    · cases h
    split at h
    · cases h; decide
    split at h
    · rename_i e' ho
      cases h
      exact oneB_err ho
    · split at h
      · cases h; decide
      · exact litB_err q f _ _ e h
theorem readL_err {l : List UInt8} {e : Int} (h : readL l = .error e) : ¬ e = 0 := by
  unfold readL at h
  split at h
  · cases h; decide
  · split at h
    · exact litB_err _ _ _ _ _ h
    · cases h; decide
theorem quotedB_ok {l t u : List UInt8} (h : quotedB l = some (t, u)) : readL l = .ok (t, u) ∧ quoteB t ++ u = l ∧ t.length ≤ 65536 := by
  obtain ⟨h1, h2⟩ := quotedB_some h
  refine ⟨?_, h1, h2⟩
  rw [← h1]
  exact readL_quote t u h2
theorem readL_len {l t u : List UInt8} (h : readL l = .ok (t, u)) : t.length ≤ 65536 := by
  unfold readL at h
  split at h
  · cases h
  · split at h
    · exact litB_len _ _ _ _ _ (by simp) h
    · cases h
attribute [local irreducible] G GC GQ GA GAop Calls IntKind.wrap Int.decLt Int.decLe
theorem lread_ok {l t u : List UInt8} (h : readL l = .ok (t, u)) (hl : l.length ≤ 1000000) (w : World) (μ : Mem) (hμ : MOk μ w) :
    Calls Tryd.prog 50 #[.string (ofB l), .int .i64 0] w fun e w' => e = .returned (.tuple #[.string (ofB t), .int .i64 ((l.length - u.length : Nat) : Int), .int .i64 0]) ∧ Below w.heap.size w w' := by
  have := lread_spec (ofB l) (by rw [ofB_size]; exact hl) w μ hμ
  rw [bl_ofB, h, ofB_size] at this
  exact this
theorem lread_no {l : List UInt8} {e : Int} (h : readL l = .error e) (hl : l.length ≤ 1000000) (w : World) (μ : Mem) (hμ : MOk μ w) :
    Calls Tryd.prog 50 #[.string (ofB l), .int .i64 0] w fun en w' => en = .returned (.tuple #[.string ⟨#[]⟩, .int .i64 0, .int .i64 e]) ∧ Below w.heap.size w w' := by
  have := lread_spec (ofB l) (by rw [ofB_size]; exact hl) w μ hμ
  rw [bl_ofB, h, ofB_size] at this
  exact this
theorem quote_at (t : List UInt8) (ht : t.length ≤ 65536) (w : World) (μ : Mem) (hμ : MOk μ w) :
    Calls Tryd.prog 16 #[.string (ofB t)] w fun e w' => e = .returned (.string (ofB (quoteB t))) ∧ Below w.heap.size w w' := by
  have := lquote_spec (ofB t) (by rw [ofB_size]; omega) w μ hμ
  rw [byS_ofB] at this
  exact this
theorem next_ok {l r : List UInt8} (rb : Nat) (s rest : List UInt8) (line : Int) (h : Ou.cutB 10 s = some (l, r)) (hs : s.length ≤ 100000) (hr : rest.length ≤ 100000) (hl : 0 ≤ line ∧ line ≤ 100000) (w : World) (μ : Mem) (hμ : MOk μ w) (hm : MaxOk μ) (hO : Go.Vcg.Own μ (rdB rb (s, line, rest)) w) :
    Calls Tryd.prog 20 #[.pointer (some ⟨rb, 0, none⟩)] w (RdK (idsOf (rdB rb (s, line, rest))) w μ rb (r, line + 1, l) fun _ => True) := by
  have hcnt := ids_count hO.diff
  refine call_introM (args := [.pointer (some ⟨rb, 0, none⟩)]) Tryd.func20 rfl Tryd.ntmps20 (by simp) hμ hO ?_
  show GC _ _ _ _ _ _ [.inl ⟨rb, 36, 3, [(0, .string (ofB s)), (1, .int .i64 line), (2, .string (ofB rest))]⟩]
  repeat' (first | refine KO ?_ | ((with_reducible apply F1 38); exact rfl; exact EN; (exact fun w μc hw hse => cut_ok h (by omega) w μc hw (hm.mono hse.le))) | ((with_reducible apply F1 23); exact rfl; exact EN; (exact fun w μc hw hse => must_okb rfl _ w μc hw)) | refine KI ?_ | ((refine KB ?_ ?_ <;> intro hp)) | refine KG ?_ | fail)
  refine gq_sel (l' := []) (L' := rdB rb (r, line + 1, l)) PU PS ?_
  exact ret_bor0 (Post := fun _ _ _ => True) (Ls := fun _ : Unit => rdB rb (r, line + 1, l)) 1 () (.inr rfl) hcnt rfl rfl rfl (fun _ _ _ => trivial)
theorem next_err (rb : Nat) (s rest : List UInt8) (line : Int) (h : Ou.cutB 10 s = none) (hs : s.length ≤ 100000) (hr : rest.length ≤ 100000) (hl : 0 ≤ line ∧ line ≤ 100000) (w : World) (μ : Mem) (hμ : MOk μ w) (hm : MaxOk μ) (hO : Go.Vcg.Own μ (rdB rb (s, line, rest)) w) :
    Calls Tryd.prog 20 #[.pointer (some ⟨rb, 0, none⟩)] w (RdE (idsOf (rdB rb (s, line, rest))) w μ rb (line + 1) 8) := by
  have hcnt := ids_count hO.diff
  refine call_introM (args := [.pointer (some ⟨rb, 0, none⟩)]) Tryd.func20 rfl Tryd.ntmps20 (by simp) hμ hO ?_
  show GC _ _ _ _ _ _ [.inl ⟨rb, 36, 3, [(0, .string (ofB s)), (1, .int .i64 line), (2, .string (ofB rest))]⟩]
  repeat' (first | ((with_reducible (first | apply gq_then_panic | apply gq_block_panic))) | refine KO ?_ | ((with_reducible apply F1 38); exact rfl; exact EN; (exact fun w μc hw hse => cut_no h (by omega) w μc hw (hm.mono hse.le))) | (refine CF 23 ?_; (with_reducible apply g_enter_pan 0); exact rfl; ((with_reducible apply e_call2); kernel_rfl; exact rfl; exact rfl); exact rfl; (exact fun w hw _ => must_errb rfl _ w _ hw)) | refine KI ?_ | ((refine KB ?_ ?_ <;> intro hp)) | refine KG ?_ | fail)
  refine gq_sel (l' := []) (L' := rdB rb (s, line + 1, rest)) PU PS ?_
  exact gq_panB (Ls := fun i : List UInt8 × List UInt8 => rdB rb (i.1, line + 1, i.2)) 1 (s, rest) hcnt rfl rfl
theorem word_ok {x u : List UInt8} (rb : Nat) (s rest : List UInt8) (line : Int) (h : Ou.cutB 32 rest = some (x, u)) (hs : s.length ≤ 100000) (hr : rest.length ≤ 100000) (hl : 0 ≤ line ∧ line ≤ 100000) (w : World) (μ : Mem) (hμ : MOk μ w) (hm : MaxOk μ) (hO : Go.Vcg.Own μ (rdB rb (s, line, rest)) w) :
    Calls Tryd.prog 21 #[.pointer (some ⟨rb, 0, none⟩)] w (RdK (idsOf (rdB rb (s, line, rest))) w μ rb (s, line, u) fun v => v = .string (ofB x)) := by
  have hcnt := ids_count hO.diff
  refine call_introM (args := [.pointer (some ⟨rb, 0, none⟩)]) Tryd.func21 rfl Tryd.ntmps21 (by simp) hμ hO ?_
  show GC _ _ _ _ _ _ [.inl ⟨rb, 36, 3, [(0, .string (ofB s)), (1, .int .i64 line), (2, .string (ofB rest))]⟩]
  repeat' (first | refine KO ?_ | ((with_reducible apply F1 38); exact rfl; exact EN; (exact fun w μc hw hse => cut_ok h (by omega) w μc hw (hm.mono hse.le))) | ((with_reducible apply F1 23); exact rfl; exact EN; (exact fun w μc hw hse => must_okb rfl _ w μc hw)) | refine KI ?_ | ((refine KB ?_ ?_ <;> intro hp)) | refine KG ?_ | fail)
  refine gq_sel (l' := [(2, .string (ofB x))]) (L' := rdB rb (s, line, u)) PU PS ?_
  exact ret_bor (Post := fun _ r _ => r = .string (ofB x)) (Ls := fun _ : Unit => rdB rb (s, line, u)) 1 () hcnt rfl (rv_tmp rfl) rfl rfl (fun _ _ => rfl)
theorem word_err (rb : Nat) (s rest : List UInt8) (line : Int) (h : Ou.cutB 32 rest = none) (hs : s.length ≤ 100000) (hr : rest.length ≤ 100000) (hl : 0 ≤ line ∧ line ≤ 100000) (w : World) (μ : Mem) (hμ : MOk μ w) (hm : MaxOk μ) (hO : Go.Vcg.Own μ (rdB rb (s, line, rest)) w) :
    Calls Tryd.prog 21 #[.pointer (some ⟨rb, 0, none⟩)] w (RdE (idsOf (rdB rb (s, line, rest))) w μ rb line 7) := by
  have hcnt := ids_count hO.diff
  refine call_introM (args := [.pointer (some ⟨rb, 0, none⟩)]) Tryd.func21 rfl Tryd.ntmps21 (by simp) hμ hO ?_
  show GC _ _ _ _ _ _ [.inl ⟨rb, 36, 3, [(0, .string (ofB s)), (1, .int .i64 line), (2, .string (ofB rest))]⟩]
  repeat' (first | ((with_reducible (first | apply gq_then_panic | apply gq_block_panic))) | refine KO ?_ | ((with_reducible apply F1 38); exact rfl; exact EN; (exact fun w μc hw hse => cut_no h (by omega) w μc hw (hm.mono hse.le))) | (refine CF 23 ?_; (with_reducible apply g_enter_pan 0); exact rfl; ((with_reducible apply e_call2); kernel_rfl; exact rfl; exact rfl); exact rfl; (exact fun w hw _ => must_errb rfl _ w _ hw)) | refine KI ?_ | ((refine KB ?_ ?_ <;> intro hp)) | refine KG ?_ | fail)
  refine gq_sel (l' := []) (L' := rdB rb (s, line, rest)) PU PS ?_
  exact gq_panB (Ls := fun i : List UInt8 × List UInt8 => rdB rb (i.1, line, i.2)) 1 (s, rest) hcnt rfl rfl
theorem must1_ok {x u : List UInt8} (rb : Nat) (s rest : List UInt8) (line : Int) (h : Ou.cutB 32 rest = some (x, u)) (hs : s.length ≤ 100000) (hr : rest.length ≤ 100000) (hl : 0 ≤ line ∧ line ≤ 100000) (w : World) (μ : Mem) (hμ : MOk μ w) (hm : MaxOk μ) (hO : Go.Vcg.Own μ (rdB rb (s, line, rest)) w) :
    Calls Tryd.prog 25 #[.pointer (some ⟨rb, 0, none⟩), .string (ofB x)] w (RdK (idsOf (rdB rb (s, line, rest))) w μ rb (s, line, u) fun _ => True) := by
  have hcnt := ids_count hO.diff
  refine call_introM (args := [.pointer (some ⟨rb, 0, none⟩), .string (ofB x)]) Tryd.func25 rfl Tryd.ntmps25 (by simp) hμ hO ?_
  show GC _ _ _ _ _ _ [.inl ⟨rb, 36, 3, [(0, .string (ofB s)), (1, .int .i64 line), (2, .string (ofB rest))]⟩]
  repeat' (first | refine KO ?_ | (refine CF 21 ?_; (with_reducible apply g_enter_bor 1); exact rfl; exact rfl; exact rfl; ((with_reducible apply e_call1); kernel_rfl; exact rfl); exact rfl; (exact fun w hw hO => word_ok rb s rest line h hs hr hl w _ hw hm hO); (rintro v2 μ2 ⟨⟩ hle2 rfl); (dsimp only [List.cons_append, List.nil_append])) | ((with_reducible apply F1 23); exact rfl; exact EN; (exact fun w μc hw hse => must_okb (decide_eq_true rfl) _ w μc hw)) | refine KI ?_ | ((refine KB ?_ ?_ <;> intro hp)) | refine KG ?_ | fail)
  refine gq_sel (l' := []) (L' := rdB rb (s, line, u)) PU PS ?_
  exact ret_bor0 (Post := fun _ _ _ => True) (Ls := fun _ : Unit => rdB rb (s, line, u)) 1 () (.inr rfl) hcnt rfl rfl rfl (fun _ _ _ => trivial)
theorem must1_err1 {x : List UInt8} (rb : Nat) (s rest : List UInt8) (line : Int) (h : Ou.cutB 32 rest = none) (hs : s.length ≤ 100000) (hr : rest.length ≤ 100000) (hl : 0 ≤ line ∧ line ≤ 100000) (w : World) (μ : Mem) (hμ : MOk μ w) (hm : MaxOk μ) (hO : Go.Vcg.Own μ (rdB rb (s, line, rest)) w) :
    Calls Tryd.prog 25 #[.pointer (some ⟨rb, 0, none⟩), .string (ofB x)] w (RdE (idsOf (rdB rb (s, line, rest))) w μ rb line 7) := by
  have hcnt := ids_count hO.diff
  refine call_introM (args := [.pointer (some ⟨rb, 0, none⟩), .string (ofB x)]) Tryd.func25 rfl Tryd.ntmps25 (by simp) hμ hO ?_
  show GC _ _ _ _ _ _ [.inl ⟨rb, 36, 3, [(0, .string (ofB s)), (1, .int .i64 line), (2, .string (ofB rest))]⟩]
  repeat' (first | ((with_reducible (first | apply gq_then_panic | apply gq_block_panic))) | refine KO ?_ | (refine CF 21 ?_; (with_reducible apply g_enter_panB 1); exact rfl; ((with_reducible apply e_call1); kernel_rfl; exact rfl); exact rfl; (exact fun w hw hO => word_err rb s rest line h hs hr hl w _ hw hm hO); (rintro μ2 i2 hle2); (dsimp only [List.cons_append, List.nil_append])) | refine KI ?_ | ((refine KB ?_ ?_ <;> intro hp)) | refine KG ?_ | fail)
  refine gq_sel (l' := []) (L' := rdB rb (i2.1, line, i2.2)) PU PS ?_
  exact gq_panB (Ls := fun i : List UInt8 × List UInt8 => rdB rb (i.1, line, i.2)) 1 (i2.1, i2.2) hcnt rfl rfl
theorem must1_err2 {x y u : List UInt8} (rb : Nat) (s rest : List UInt8) (line : Int) (h : Ou.cutB 32 rest = some (y, u)) (hne : ¬ y = x) (hs : s.length ≤ 100000) (hr : rest.length ≤ 100000) (hl : 0 ≤ line ∧ line ≤ 100000) (w : World) (μ : Mem) (hμ : MOk μ w) (hm : MaxOk μ) (hO : Go.Vcg.Own μ (rdB rb (s, line, rest)) w) :
    Calls Tryd.prog 25 #[.pointer (some ⟨rb, 0, none⟩), .string (ofB x)] w (RdE (idsOf (rdB rb (s, line, rest))) w μ rb line 7) := by
  have hcnt := ids_count hO.diff
  refine call_introM (args := [.pointer (some ⟨rb, 0, none⟩), .string (ofB x)]) Tryd.func25 rfl Tryd.ntmps25 (by simp) hμ hO ?_
  show GC _ _ _ _ _ _ [.inl ⟨rb, 36, 3, [(0, .string (ofB s)), (1, .int .i64 line), (2, .string (ofB rest))]⟩]
  repeat' (first | ((with_reducible (first | apply gq_then_panic | apply gq_block_panic))) | refine KO ?_ | (refine CF 21 ?_; (with_reducible apply g_enter_bor 1); exact rfl; exact rfl; exact rfl; ((with_reducible apply e_call1); kernel_rfl; exact rfl); exact rfl; (exact fun w hw hO => word_ok rb s rest line h hs hr hl w _ hw hm hO); (rintro v2 μ2 ⟨⟩ hle2 rfl); (dsimp only [List.cons_append, List.nil_append])) | (refine CF 23 ?_; (with_reducible apply g_enter_pan 0); exact rfl; ((with_reducible apply e_call2); kernel_rfl; exact rfl; exact rfl); exact rfl; (exact fun w hw _ => must_errb (decide_eq_false (fun h => hne (ofB_inj h))) _ w _ hw)) | refine KI ?_ | ((refine KB ?_ ?_ <;> intro hp)) | refine KG ?_ | fail)
  refine gq_sel (l' := []) (L' := rdB rb (s, line, u)) PU PS ?_
  exact gq_panB (Ls := fun i : List UInt8 × List UInt8 => rdB rb (i.1, line, i.2)) 1 (s, u) hcnt rfl rfl
theorem quoted_ok {t u : List UInt8} (rb : Nat) (s rest : List UInt8) (line : Int) (h : quotedB rest = some (t, u)) (hs : s.length ≤ 100000) (hr : rest.length ≤ 100000) (hl : 0 ≤ line ∧ line ≤ 100000) (w : World) (μ : Mem) (hμ : MOk μ w) (hm : MaxOk μ) (hO : Go.Vcg.Own μ (rdB rb (s, line, rest)) w) :
    Calls Tryd.prog 39 #[.pointer (some ⟨rb, 0, none⟩)] w (RdK (idsOf (rdB rb (s, line, rest))) w μ rb (s, line, u) fun v => v = .string (ofB t)) := by
  have hcnt := ids_count hO.diff
  refine call_introM (args := [.pointer (some ⟨rb, 0, none⟩)]) Tryd.func39 rfl Tryd.ntmps39 (by simp) hμ hO ?_
  show GC _ _ _ _ _ _ [.inl ⟨rb, 36, 3, [(0, .string (ofB s)), (1, .int .i64 line), (2, .string (ofB rest))]⟩]
  obtain ⟨h1, h2, h3⟩ := quotedB_ok h
  obtain ⟨g1, g2⟩ := readL_suf h1
  have hc := (quote_cond h1).2 h2
  obtain ⟨k, hk⟩ : ∃ k, rest.length - u.length = k := ⟨_, rfl⟩
  have hrd := fun (w : World) (μ : Mem) (hμ : MOk μ w) => lread_ok h1 (by omega) w μ hμ
  rw [hk] at hc g1 hrd
  have hsz := ofB_size rest
  have hext : (ofB rest).extract k (ofB rest).size = ofB u := by rw [ext_drop, ← g1]
  repeat' (first | refine KO ?_ | ((with_reducible apply F1 50); exact rfl; exact EN; (exact fun w μc hw hse => hrd w μc hw)) | refine KI ?_ | ((refine KB ?_ ?_ <;> intro hp)) | refine KG ?_ | fail)
  refine gc_draw 14 _ (by kernel_rfl) rfl (List.Sublist.cons_cons _ (List.nil_sublist _)) ?_
  all_goals refine DD 0 ?_
  all_goals (first | refine D1 1 ?_ | (refine DV (k := 1) (b := by first | ((with_reducible apply v_str_hi k); exact rfl; exact rfl; exact rfl; exact rfl; omega)) (c := ?_)) | refine DD 1 ?_ | fail)
  all_goals refine DD 2 ?_
  all_goals (try (refine D7 3 ?_; (repeat' (first | refine KO ?_ | (refine KB ?_ ?_ <;> intro hp)))))
  all_goals refine DD 3 ?_
  all_goals refine DD 5 ?_
  all_goals refine DD 6 ?_
  all_goals (first | refine D1 7 ?_ | (refine DV (k := 7) (b := by first | ((with_reducible apply v_str_hi k); exact rfl; exact rfl; exact rfl; exact rfl; omega)) (c := ?_)) | refine DD 7 ?_ | fail)
  all_goals (first | refine D1 8 ?_ | (refine DV (k := 8) (b := by first | ((with_reducible apply v_str_hi k); exact rfl; exact rfl; exact rfl; exact rfl; omega)) (c := ?_)) | (refine D3 8 (DW (b := by first | ((with_reducible apply v_str_hi k); exact rfl; exact rfl; exact rfl; exact rfl; omega)) (c := ?_))) | refine DD 8 ?_ | fail)
  all_goals refine DD 9 ?_
  all_goals (first | refine D1 10 ?_ | (refine DV (k := 10) (b := by first | ((with_reducible apply v_str_hi k); exact rfl; exact rfl; exact rfl; exact rfl; omega)) (c := ?_)) | refine DD 10 ?_ | fail)
  all_goals (first | (refine D3 4 ?_; refine D5 ?_; (first | ((with_reducible apply F1 16); exact rfl; exact EN; (exact fun w μc hw hse => quote_at t h3 w μc hw)) | ((with_reducible apply F1 23); exact rfl; exact EN; (exact fun w μc hw hse => must_okb (decide_eq_true hc) _ w μc hw))); refine D9 ?_) | refine D3 4 (D6 ?_))
  all_goals (first | refine D1 11 ?_ | (refine DV (k := 11) (b := by first | ((with_reducible apply v_str_hi k); exact rfl; exact rfl; exact rfl; exact rfl; omega)) (c := ?_)) | refine DD 11 ?_ | fail)
  all_goals refine DD 12 ?_
  all_goals (first | (refine D3 13 ?_; refine D5 ?_; (first | ((with_reducible apply F1 16); exact rfl; exact EN; (exact fun w μc hw hse => quote_at t h3 w μc hw)) | ((with_reducible apply F1 23); exact rfl; exact EN; (exact fun w μc hw hse => must_okb (decide_eq_true hc) _ w μc hw))); refine D9 ?_))
  all_goals refine D8 ?_
  all_goals try (exfalso; omega)
  repeat' (first | refine KO ?_ | (refine KV (b := by first | ((with_reducible apply v_str_lo k); exact rfl; exact rfl; exact rfl; exact rfl; omega)) (c := ?_)) | refine KI ?_ | ((refine KB ?_ ?_ <;> intro hp)) | refine KG ?_ | fail)
  rw [hext]
  refine gq_sel (l' := [(2, .string (ofB t))]) (L' := rdB rb (s, line, u)) PU PS ?_
  exact ret_bor (Post := fun _ r _ => r = .string (ofB t)) (Ls := fun _ : Unit => rdB rb (s, line, u)) 1 () hcnt rfl (rv_tmp rfl) rfl rfl (fun _ _ => rfl)
theorem quoted_err (rb : Nat) (s rest : List UInt8) (line : Int) (h : quotedB rest = none) (hs : s.length ≤ 100000) (hr : rest.length ≤ 100000) (hl : 0 ≤ line ∧ line ≤ 100000) (w : World) (μ : Mem) (hμ : MOk μ w) (hm : MaxOk μ) (hO : Go.Vcg.Own μ (rdB rb (s, line, rest)) w) :
    Calls Tryd.prog 39 #[.pointer (some ⟨rb, 0, none⟩)] w (RdE (idsOf (rdB rb (s, line, rest))) w μ rb line 7) := by
  have hcnt := ids_count hO.diff
  refine call_introM (args := [.pointer (some ⟨rb, 0, none⟩)]) Tryd.func39 rfl Tryd.ntmps39 (by simp) hμ hO ?_
  show GC _ _ _ _ _ _ [.inl ⟨rb, 36, 3, [(0, .string (ofB s)), (1, .int .i64 line), (2, .string (ofB rest))]⟩]
  have hsz := ofB_size rest
  cases h1 : readL rest with
  | error e =>
    have he := readL_err h1
    have hrd := fun (w : World) (μ : Mem) (hμ : MOk μ w) => lread_no h1 (by omega) w μ hμ
    repeat' (first | refine KO ?_ | ((with_reducible apply F1 50); exact rfl; exact EN; (exact fun w μc hw hse => hrd w μc hw)) | refine KI ?_ | ((refine KB ?_ ?_ <;> intro hp)) | refine KG ?_ | fail)
    refine gc_draw 14 _ (by kernel_rfl) rfl (List.Sublist.cons_cons _ (List.nil_sublist _)) ?_
    all_goals refine DD 0 ?_
    all_goals refine DD 1 ?_
    all_goals refine DD 2 ?_
    all_goals (try (refine D7 3 ?_; (repeat' (first | refine KO ?_ | (refine KB ?_ ?_ <;> intro hp)))))
    all_goals refine DD 3 ?_
    all_goals refine DD 5 ?_
    all_goals refine DD 6 ?_
    all_goals refine DD 7 ?_
    all_goals refine DD 8 ?_
    all_goals refine DD 9 ?_
    all_goals refine DD 10 ?_
    all_goals (first | (refine D3 4 ?_; refine D5 ?_; ((with_reducible apply g_enter_pan 0); exact rfl; ((with_reducible apply e_call2); kernel_rfl; exact rfl; exact rfl); exact rfl; (exact fun w hw _ => must_errb rfl _ w _ hw))) | refine D3 4 (D6 ?_))
    all_goals refine DD 11 ?_
    all_goals refine DD 12 ?_
    all_goals (first | (refine D3 13 ?_; refine D5 ?_; ((with_reducible apply g_enter_pan 0); exact rfl; ((with_reducible apply e_call2); kernel_rfl; exact rfl; exact rfl); exact rfl; (exact fun w hw _ => must_errb rfl _ w _ hw))))
    all_goals (try refine D8 ?_)
    all_goals refine qa_panic (gq_then_panic ?_)
    all_goals try (exfalso; omega)
    refine gq_sel (l' := []) (L' := rdB rb (s, line, rest)) PU PS ?_
    exact gq_panB (Ls := fun i : List UInt8 × List UInt8 => rdB rb (i.1, line, i.2)) 1 (s, rest) hcnt rfl rfl
  | ok p =>
    obtain ⟨t, u⟩ := p
    have h3 := readL_len h1
    obtain ⟨g1, g2⟩ := readL_suf h1
    have hc : ¬ _ := fun hh => by
      have := (quote_cond h1).1 hh
      unfold quotedB at h
      rw [h1] at h
      dsimp only at h
      rw [if_pos this] at h
      cases h
    obtain ⟨k, hk⟩ : ∃ k, rest.length - u.length = k := ⟨_, rfl⟩
    have hrd := fun (w : World) (μ : Mem) (hμ : MOk μ w) => lread_ok h1 (by omega) w μ hμ
    rw [hk] at hc g1 hrd
    repeat' (first | refine KO ?_ | ((with_reducible apply F1 50); exact rfl; exact EN; (exact fun w μc hw hse => hrd w μc hw)) | refine KI ?_ | ((refine KB ?_ ?_ <;> intro hp)) | refine KG ?_ | fail)
    refine gc_draw 14 _ (by kernel_rfl) rfl (List.Sublist.cons_cons _ (List.nil_sublist _)) ?_
    all_goals refine DD 0 ?_
    all_goals (first | refine D1 1 ?_ | (refine DV (k := 1) (b := by first | ((with_reducible apply v_str_hi k); exact rfl; exact rfl; exact rfl; exact rfl; omega)) (c := ?_)) | refine DD 1 ?_ | fail)
    all_goals refine DD 2 ?_
    all_goals (try (refine D7 3 ?_; (repeat' (first | refine KO ?_ | (refine KB ?_ ?_ <;> intro hp)))))
    all_goals refine DD 3 ?_
    all_goals refine DD 5 ?_
    all_goals refine DD 6 ?_
    all_goals (first | refine D1 7 ?_ | (refine DV (k := 7) (b := by first | ((with_reducible apply v_str_hi k); exact rfl; exact rfl; exact rfl; exact rfl; omega)) (c := ?_)) | refine DD 7 ?_ | fail)
    all_goals (first | refine D1 8 ?_ | (refine DV (k := 8) (b := by first | ((with_reducible apply v_str_hi k); exact rfl; exact rfl; exact rfl; exact rfl; omega)) (c := ?_)) | (refine D3 8 (DW (b := by first | ((with_reducible apply v_str_hi k); exact rfl; exact rfl; exact rfl; exact rfl; omega)) (c := ?_))) | refine DD 8 ?_ | fail)
    all_goals refine DD 9 ?_
    all_goals (first | refine D1 10 ?_ | (refine DV (k := 10) (b := by first | ((with_reducible apply v_str_hi k); exact rfl; exact rfl; exact rfl; exact rfl; omega)) (c := ?_)) | refine DD 10 ?_ | fail)
    all_goals (first | (refine D3 4 ?_; refine D5 ?_; (first | ((with_reducible apply C1); exact rfl; exact EN; (exact fun w μc hw hse => quote_at t h3 w μc hw); refine D9 ?_) | ((with_reducible apply g_enter_pan 0); exact rfl; ((with_reducible apply e_call2); kernel_rfl; exact rfl; exact rfl); exact rfl; (exact fun w hw _ => must_errb (decide_eq_false hc) _ w _ hw)))) | refine D3 4 (D6 ?_))
    all_goals (first | refine D1 11 ?_ | (refine DV (k := 11) (b := by first | ((with_reducible apply v_str_hi k); exact rfl; exact rfl; exact rfl; exact rfl; omega)) (c := ?_)) | refine DD 11 ?_ | fail)
    all_goals refine DD 12 ?_
    all_goals (first | (refine D3 13 ?_; refine D5 ?_; (first | ((with_reducible apply C1); exact rfl; exact EN; (exact fun w μc hw hse => quote_at t h3 w μc hw); refine D9 ?_) | ((with_reducible apply g_enter_pan 0); exact rfl; ((with_reducible apply e_call2); kernel_rfl; exact rfl; exact rfl); exact rfl; (exact fun w hw _ => must_errb (decide_eq_false hc) _ w _ hw)))))
    all_goals (try refine D8 ?_)
    all_goals refine qa_panic (gq_then_panic ?_)
    all_goals try (exfalso; omega)
    refine gq_sel (l' := []) (L' := rdB rb (s, line, rest)) PU PS ?_
    exact gq_panB (Ls := fun i : List UInt8 × List UInt8 => rdB rb (i.1, line, i.2)) 1 (s, rest) hcnt rfl rfl
theorem lastB_ok {l t : List UInt8} (h : lastB l = some t) : quotedB l = some (t, []) := by
  unfold lastB at h
  split at h
  · rename_i t' hq; cases h; exact hq
  · cases h
theorem lastB_no {l t u : List UInt8} (hq : quotedB l = some (t, u)) (h : lastB l = none) : ¬ u = [] := by
  rintro rfl
  unfold lastB at h
  rw [hq] at h
  cases h
theorem last_ok {t : List UInt8} (rb : Nat) (s rest : List UInt8) (line : Int) (h : lastB rest = some t) (hs : s.length ≤ 100000) (hr : rest.length ≤ 100000) (hl : 0 ≤ line ∧ line ≤ 100000) (w : World) (μ : Mem) (hμ : MOk μ w) (hm : MaxOk μ) (hO : Go.Vcg.Own μ (rdB rb (s, line, rest)) w) :
    Calls Tryd.prog 24 #[.pointer (some ⟨rb, 0, none⟩)] w (RdK (idsOf (rdB rb (s, line, rest))) w μ rb (s, line, []) fun v => v = .string (ofB t)) := by
  have hcnt := ids_count hO.diff
  refine call_introM (args := [.pointer (some ⟨rb, 0, none⟩)]) Tryd.func24 rfl Tryd.ntmps24 (by simp) hμ hO ?_
  show GC _ _ _ _ _ _ [.inl ⟨rb, 36, 3, [(0, .string (ofB s)), (1, .int .i64 line), (2, .string (ofB rest))]⟩]
  repeat' (first | refine KO ?_ | (refine CF 39 ?_; (with_reducible apply g_enter_bor 1); exact rfl; exact rfl; exact rfl; ((with_reducible apply e_call1); kernel_rfl; exact rfl); exact rfl; (exact fun w hw hO => quoted_ok rb s rest line (lastB_ok h) hs hr hl w _ hw hm hO); (rintro v2 μ2 ⟨⟩ hle2 rfl); (dsimp only [List.cons_append, List.nil_append])) | ((with_reducible apply F1 23); exact rfl; exact EN; (exact fun w μc hw hse => must_okb (decide_eq_true rfl) _ w μc hw)) | refine KI ?_ | ((refine KB ?_ ?_ <;> intro hp)) | refine KG ?_ | fail)
  refine gq_sel (l' := [(2, .string (ofB t))]) (L' := rdB rb (s, line, [])) PU PS ?_
  exact ret_bor (Post := fun _ r _ => r = .string (ofB t)) (Ls := fun _ : Unit => rdB rb (s, line, [])) 1 () hcnt rfl (rv_tmp rfl) rfl rfl (fun _ _ => rfl)
theorem last_err (rb : Nat) (s rest : List UInt8) (line : Int) (h : lastB rest = none) (hs : s.length ≤ 100000) (hr : rest.length ≤ 100000) (hl : 0 ≤ line ∧ line ≤ 100000) (w : World) (μ : Mem) (hμ : MOk μ w) (hm : MaxOk μ) (hO : Go.Vcg.Own μ (rdB rb (s, line, rest)) w) :
    Calls Tryd.prog 24 #[.pointer (some ⟨rb, 0, none⟩)] w (RdE (idsOf (rdB rb (s, line, rest))) w μ rb line 7) := by
  have hcnt := ids_count hO.diff
  refine call_introM (args := [.pointer (some ⟨rb, 0, none⟩)]) Tryd.func24 rfl Tryd.ntmps24 (by simp) hμ hO ?_
  show GC _ _ _ _ _ _ [.inl ⟨rb, 36, 3, [(0, .string (ofB s)), (1, .int .i64 line), (2, .string (ofB rest))]⟩]
  cases hq : quotedB rest with
  | none =>
    repeat' (first | ((with_reducible (first | apply gq_then_panic | apply gq_block_panic))) | refine KO ?_ | (refine CF 39 ?_; (with_reducible apply g_enter_panB 1); exact rfl; ((with_reducible apply e_call1); kernel_rfl; exact rfl); exact rfl; (exact fun w hw hO => quoted_err rb s rest line hq hs hr hl w _ hw hm hO); (rintro μ2 i2 hle2); (dsimp only [List.cons_append, List.nil_append])) | refine KI ?_ | ((refine KB ?_ ?_ <;> intro hp)) | refine KG ?_ | fail)
    refine gq_sel (l' := []) (L' := rdB rb (i2.1, line, i2.2)) PU PS ?_
    exact gq_panB (Ls := fun i : List UInt8 × List UInt8 => rdB rb (i.1, line, i.2)) 1 (i2.1, i2.2) hcnt rfl rfl
  | some p =>
    obtain ⟨t, u⟩ := p
    have hne := lastB_no hq h
    repeat' (first | ((with_reducible (first | apply gq_then_panic | apply gq_block_panic))) | refine KO ?_ | (refine CF 39 ?_; (with_reducible apply g_enter_bor 1); exact rfl; exact rfl; exact rfl; ((with_reducible apply e_call1); kernel_rfl; exact rfl); exact rfl; (exact fun w hw hO => quoted_ok rb s rest line hq hs hr hl w _ hw hm hO); (rintro v2 μ2 ⟨⟩ hle2 rfl); (dsimp only [List.cons_append, List.nil_append])) | (refine CF 23 ?_; (with_reducible apply g_enter_pan 0); exact rfl; ((with_reducible apply e_call2); kernel_rfl; exact rfl; exact rfl); exact rfl; (exact fun w hw _ => must_errb (decide_eq_false (fun h => hne (ofB_inj h))) _ w _ hw)) | refine KI ?_ | ((refine KB ?_ ?_ <;> intro hp)) | refine KG ?_ | fail)
    refine gq_sel (l' := []) (L' := rdB rb (s, line, u)) PU PS ?_
    exact gq_panB (Ls := fun i : List UInt8 × List UInt8 => rdB rb (i.1, line, i.2)) 1 (s, u) hcnt rfl rfl
end Go.Proofs.YtmihpkdhfomcgaaDoor
