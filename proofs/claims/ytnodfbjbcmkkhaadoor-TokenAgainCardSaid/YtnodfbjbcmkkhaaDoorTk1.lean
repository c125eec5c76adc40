/- The lexer of package token: classes of bytes, past, gap: their contracts. -/
import Derived.Test.YtnodfbjbcmkkhaaDoorTkNL2
set_option maxRecDepth 20000
namespace Go.Proofs.YtnodfbjbcmkkhaaDoor
open Go.RowKit Go.Vcg

theorem drop_cons {l : List UInt8} {i : Nat} {b : UInt8} (h : l[i]? = some b) : l.drop i = b :: l.drop (i + 1) := by
  obtain ⟨hi, rfl⟩ := List.getElem?_eq_some_iff.1 h
  exact List.drop_eq_getElem_cons hi
theorem bl_at {s : ByteArray} {i : Nat} (h : i < s.size) : ∃ b, (bl s)[i]? = some b ∧ bAt s i = b.toNat := by
  have : i < (bl s).length := by rw [bl_len]; exact h
  exact ⟨(bl s)[i], List.getElem?_eq_getElem this, bAt_get (List.getElem?_eq_getElem this)⟩
theorem drop_end {s : ByteArray} {i : Nat} (h : s.size ≤ i) : (bl s).drop i = [] := List.drop_of_length_le (by rw [bl_len]; omega)
theorem bl_lo (s : ByteArray) (k : Nat) : bl (s.extract k s.size) = (bl s).drop k := by
  rw [bl_extract]
  exact List.take_of_length_le (by rw [List.length_drop, bl_len]; omega)
theorem bl_seg (s : ByteArray) (k m : Nat) : bl (s.extract k m) = ((bl s).drop k).take (m - k) := bl_extract s k m

/-- how much further, and the rest as it is -/
abbrev addN {α : Type} (k : Nat) (x : Nat × α) : Nat × α := (k + x.1, x.2)
theorem gapK_skip : ∀ {k : Nat} {ln : Bool} {xs : List UInt8}, k ≤ xs.length → gapK k ln xs = addN k (gapK 0 ln (xs.drop k))
  | 0, ln, xs, _ => by simp [addN]
  | k + 1, ln, [], h => by simp at h
  | k + 1, ln, b :: r, h => by
    rw [gapK, gapK_skip (k := k) (by simpa using h)]
    simp [addN, shift1]; omega
theorem gapK_ws : ∀ (xs : List UInt8) (ln : Bool), gapK 0 ln xs = addN (headN wsI xs) (gapK 0 (ln || (xs.take (headN wsI xs)).any (on8 endI)) (xs.drop (headN wsI xs)))
  | [], ln => by simp [addN, headN, gapK]
  | b :: r, ln => by
    by_cases hb : on8 wsI b
    · rw [gapK, if_pos hb, gapK_ws r]
      simp only [headN, if_pos hb, List.take_succ_cons, List.drop_succ_cons, List.any_cons, Bool.or_assoc]
      simp [addN, shift1]; omega
    · have : headN wsI (b :: r) = 0 := by unfold headN; rw [if_neg hb]
      rw [this]
      simp [addN]
theorem headN_stop (p : Int → Bool) : ∀ (xs : List UInt8) (b : UInt8) (r : List UInt8), xs.drop (headN p xs) = b :: r → on8 p b = false
  | [], b, r, h => by simp [headN] at h
  | c :: t, b, r, h => by
    unfold headN at h
    by_cases hc : on8 p c
    · rw [if_pos hc] at h
      exact headN_stop p t b r (by simpa using h)
    · rw [if_neg hc] at h
      simp only [List.drop_zero, List.cons.injEq] at h
      rw [← h.1]; simpa using hc
theorem gapK_line {xs r : List UInt8} {ln : Bool} (h : xs = 47 :: 47 :: r) : gapK 0 ln xs = addN (headN nendI xs) (gapK 0 ln (xs.drop (headN nendI xs))) := by
  subst h
  rw [gapK, if_neg (by decide), if_pos (by simp), gapK_skip (headN_le _ _)]
  have : headN nendI (47 :: 47 :: r) = headN nendI (47 :: r) + 1 := by rw [headN, if_pos (by decide)]
  rw [this]
  simp [addN, shift1]; omega
theorem gapK_open {xs r : List UInt8} {ln : Bool} (h : xs = 47 :: 42 :: r) (hk : Lib.index r [42, 47] < 0) : gapK 0 ln xs = (0, ln, false) := by
  subst h
  rw [gapK, if_neg (by decide), if_neg (by simp), if_pos (by simp), if_pos (by simpa using hk)]
theorem gapK_block {xs r : List UInt8} {ln : Bool} {k : Nat} (h : xs = 47 :: 42 :: r) (hk : Lib.index r [42, 47] = k) (hl : k + 4 ≤ xs.length) : gapK 0 ln xs = addN (k + 4) (gapK 0 (ln || (xs.take (2 + k)).any (on8 endI)) (xs.drop (k + 4))) := by
  subst h
  rw [gapK, if_neg (by decide), if_neg (by simp), if_pos (by simp), if_neg (by simp [hk])]
  simp only [List.drop_succ_cons, List.drop_zero, hk, Int.toNat_natCast]
  rw [gapK_skip (by simp at hl ⊢; omega)]
  have e : (47 :: 42 :: r).take (2 + k) = 47 :: 42 :: r.take k := by rw [Nat.add_comm]; rfl
  rw [e]
  simp only [List.any_cons, show on8 endI 47 = false by decide, show on8 endI 42 = false by decide, Bool.false_or]
  simp [addN, shift1]; omega
theorem gapK_done {xs : List UInt8} {ln : Bool} (h0 : ∀ b r, xs = b :: r → on8 wsI b = false) (h1 : xs.take 2 ≠ [47, 47]) (h2 : xs.take 2 ≠ [47, 42]) : gapK 0 ln xs = (0, ln, true) := by
  cases xs with
  | nil => simp [gapK]
  | cons b r =>
    have n1 : ¬ (b = 47 ∧ r.head? = some 47) := by
      rintro ⟨rfl, hr⟩
      cases r with
      | nil => simp at hr
      | cons c t => simp at hr; subst hr; exact h1 rfl
    have n2 : ¬ (b = 47 ∧ r.head? = some 42) := by
      rintro ⟨rfl, hr⟩
      cases r with
      | nil => simp at hr
      | cons c t => simp at hr; subst hr; exact h2 rfl
    rw [gapK, if_neg (by rw [h0 b r rfl]; simp), if_neg n1, if_neg n2]
theorem take2 {xs : List UInt8} {c d : UInt8} (h : xs.take 2 = [c, d]) : ∃ r, xs = c :: d :: r := by
  match xs, h with
  | a :: b :: r, h => simp at h; exact ⟨r, by rw [h.1, h.2]⟩

/-- the library's variable MaxLen is there -/
def MaxOk (μ : Mem) : Prop := ∃ m, MCell μ ⟨Tryd.lays143_ren.g 1, 0, none⟩ (.int .i64 m)
theorem MaxOk.mono {μ μ' : Mem} (h : MaxOk μ) (k : MLe μ μ') : MaxOk μ' := by
  obtain ⟨m, c, t, f, h1, h2, h3⟩ := h
  exact ⟨m, c, t, f, k _ _ h1, h2, h3⟩
theorem MaxOk.at {μ : Mem} {w : World} (h : MaxOk μ) (hμ : MOk μ w) : ∃ m, w.cell? ⟨Tryd.lays143_ren.g 1, 0, none⟩ = some (.int .i64 m) := by
  obtain ⟨m, c, t, f, h1, h2, h3⟩ := h
  exact ⟨m, by simp only [World.cell?, hμ _ _ h1]; exact h3⟩

attribute [local irreducible] G GC GQ GA GAop Calls IntKind.wrap Int.decLt Int.decLe
theorem index_spec (s sub : ByteArray) (hs : s.size < 4294967281) (w : World) (μ : Mem) (hμ : MOk μ w) (hM : MaxOk μ) :
    Calls Tryd.prog 38 #[.string s, .string sub] w fun e w' => e = .returned (.int .i64 (Lib.index (bl s) (bl sub))) ∧ Below w.heap.size w w' := by
  obtain ⟨m, hm⟩ := hM.at hμ
  exact (Any.strings_Index Tryd.lays143 s sub m w hs hm).mono fun e w' ⟨h1, h2⟩ => ⟨h1, h2 ▸ Below.refl _ _⟩
theorem contains_spec (s sub : ByteArray) (hs : s.size < 4294967281) (w : World) (μ : Mem) (hμ : MOk μ w) (hM : MaxOk μ) :
    Calls Tryd.prog 55 #[.string s, .string sub] w fun e w' => e = .returned (.bool (Lib.contains (bl s) (bl sub))) ∧ Below w.heap.size w w' := by
  obtain ⟨m, hm⟩ := hM.at hμ
  exact (Any.strings_Contains Tryd.lays144 s sub m w hs hm).mono fun e w' ⟨h1, h2⟩ => ⟨h1, h2 ▸ Below.refl _ _⟩
theorem hasPre_at (s : ByteArray) (k : Nat) (p : ByteArray) (hs : s.size ≤ 65536) (hp : p.size ≤ 100) {c : Bool} (h : decide (((bl s).drop k).take p.size = bl p) = c) (w : World) (μ : Mem) (hμ : MOk μ w) :
    Calls Tryd.prog 36 #[.string (s.extract k s.size), .string p] w fun e w' => e = .returned (.bool c) ∧ Below w.heap.size w w' := by
  have := hasPrefix_spec (s.extract k s.size) p (by rw [ByteArray.size_extract]; omega) (by omega) w μ hμ
  rw [bl_lo, h] at this
  exact this

/-! classes of bytes -/
def FnB (f : FuncId) (p : Int → Bool) : Prop := ∀ (w : World) (μ : Mem) (c : Int), MOk μ w → 0 ≤ c → c ≤ 255 → Calls Tryd.prog f #[.int .u8 c] w fun e w' => e = .returned (.bool (p c)) ∧ Below w.heap.size w w'
theorem isLetter_ok : FnB 39 ltrI := by
  intro w μ c hμ h0 h1
  refine call_intro Tryd.func39 rfl Tryd.ntmps39 (by simp) hμ ?_
  repeat' (first | (with_reducible (first | apply gc_seq | apply gc_region | apply g_nil | apply gq_then | apply gc_block | apply gc_exit | apply gc_ret | apply gc_skip | apply gq_then_exit | apply gq_then_ret | apply gq_block_same | apply gq_block_normal | apply gq_block_ret)) | ((with_reducible apply g_p); exact rfl) | ((with_reducible apply gc_if); exact rfl) | (with_reducible (first | apply pif_t | apply pif_f | apply pif_not)) | ((with_reducible apply pif_decT); (first | omega | with_reducible assumption | with_reducible rfl)) | ((with_reducible apply pif_decF); (first | omega | with_reducible assumption | with_reducible exact ne_self_f _)) | (((with_reducible apply pif_tt); exact rfl)) | (((with_reducible apply pif_ff); exact rfl)) | (with_reducible (first | refine pif_dec (fun hp => ?_) (fun hp => ?_) | refine pif_b (fun hp => ?_) (fun hp => ?_))) | ((with_reducible apply g_v); exact rfl; (first | ((with_reducible apply v_aggeql); exact rfl; exact rfl; exact rfl; kernel_rfl; kernel_rfl; kernel_rfl; kernel_rfl))) | ((with_reducible apply gq_block_other); exact rfl) | ((with_reducible apply g_if); exact rfl; (fail_if_success (with_reducible show NLit true)); (fail_if_success (with_reducible show NLit false)); exact nLit _))
  all_goals refine ret_s rfl rfl ?_
  all_goals unfold ltrI
  all_goals first | (simp_all; done) | (simp_all; omega)
theorem isDigit_ok : FnB 41 digI := by
  intro w μ c hμ h0 h1
  refine call_intro Tryd.func41 rfl Tryd.ntmps41 (by simp) hμ ?_
  repeat' (first | (with_reducible (first | apply gc_seq | apply gc_region | apply g_nil | apply gq_then | apply gc_block | apply gc_exit | apply gc_ret | apply gc_skip | apply gq_then_exit | apply gq_then_ret | apply gq_block_same | apply gq_block_normal | apply gq_block_ret)) | ((with_reducible apply g_p); exact rfl) | ((with_reducible apply gc_if); exact rfl) | (with_reducible (first | apply pif_t | apply pif_f | apply pif_not)) | ((with_reducible apply pif_decT); (first | omega | with_reducible assumption | with_reducible rfl)) | ((with_reducible apply pif_decF); (first | omega | with_reducible assumption | with_reducible exact ne_self_f _)) | (((with_reducible apply pif_tt); exact rfl)) | (((with_reducible apply pif_ff); exact rfl)) | (with_reducible (first | refine pif_dec (fun hp => ?_) (fun hp => ?_) | refine pif_b (fun hp => ?_) (fun hp => ?_))) | ((with_reducible apply gq_block_other); exact rfl) | ((with_reducible apply g_if); exact rfl; (fail_if_success (with_reducible show NLit true)); (fail_if_success (with_reducible show NLit false)); exact nLit _))
  all_goals refine ret_s rfl rfl ?_
  all_goals unfold digI
  all_goals first | (simp_all; done) | (simp_all; omega)
theorem isEnd_ok : FnB 34 endI := by
  intro w μ c hμ h0 h1
  refine call_intro Tryd.func34 rfl Tryd.ntmps34 (by simp) hμ ?_
  repeat' (first | (with_reducible (first | apply gc_seq | apply gc_region | apply g_nil | apply gq_then | apply gc_block | apply gc_exit | apply gc_ret | apply gc_skip | apply gq_then_exit | apply gq_then_ret | apply gq_block_same | apply gq_block_normal | apply gq_block_ret)) | ((with_reducible apply g_p); exact rfl) | ((with_reducible apply gc_if); exact rfl) | (with_reducible (first | apply pif_t | apply pif_f | apply pif_not)) | ((with_reducible apply pif_decT); (first | omega | with_reducible assumption | with_reducible rfl)) | ((with_reducible apply pif_decF); (first | omega | with_reducible assumption | with_reducible exact ne_self_f _)) | (((with_reducible apply pif_tt); exact rfl)) | (((with_reducible apply pif_ff); exact rfl)) | (with_reducible (first | refine pif_dec (fun hp => ?_) (fun hp => ?_) | refine pif_b (fun hp => ?_) (fun hp => ?_))) | ((with_reducible apply g_v); exact rfl; (first | ((with_reducible apply v_aggeql); exact rfl; exact rfl; exact rfl; kernel_rfl; kernel_rfl; kernel_rfl; kernel_rfl))) | ((with_reducible apply gq_block_other); exact rfl) | ((with_reducible apply g_if); exact rfl; (fail_if_success (with_reducible show NLit true)); (fail_if_success (with_reducible show NLit false)); exact nLit _))
  all_goals refine ret_s rfl rfl ?_
  all_goals unfold endI
  all_goals first | (simp_all; done) | (simp_all; omega)
theorem gap1_ok : FnB 33 wsI := by
  intro w μ c hμ h0 h1
  refine call_intro Tryd.func33 rfl Tryd.ntmps33 (by simp) hμ ?_
  repeat' (first | (with_reducible (first | apply gc_seq | apply gc_region | apply g_nil | apply gq_then | apply gc_block | apply gc_exit | apply gc_ret | apply gc_skip | apply gq_then_exit | apply gq_then_ret | apply gq_block_same | apply gq_block_normal | apply gq_block_ret)) | ((with_reducible apply g_p); exact rfl) | ((with_reducible apply g_enter_s); exact rfl; exact rfl; exact rfl; (first | ((with_reducible apply e_call1); kernel_rfl; exact rfl)); exact fun w μc hw hse => isEnd_ok w μc c hw h0 h1) | ((with_reducible apply gc_if); exact rfl) | (with_reducible (first | apply pif_t | apply pif_f | apply pif_not)) | ((with_reducible apply pif_decT); (first | omega | with_reducible assumption | with_reducible rfl)) | ((with_reducible apply pif_decF); (first | omega | with_reducible assumption | with_reducible exact ne_self_f _)) | (((with_reducible apply pif_tt); exact rfl)) | (((with_reducible apply pif_ff); exact rfl)) | (with_reducible (first | refine pif_dec (fun hp => ?_) (fun hp => ?_) | refine pif_b (fun hp => ?_) (fun hp => ?_))) | ((with_reducible apply g_v); exact rfl; (first | ((with_reducible apply v_aggeql); exact rfl; exact rfl; exact rfl; kernel_rfl; kernel_rfl; kernel_rfl; kernel_rfl))) | ((with_reducible apply gq_block_other); exact rfl) | ((with_reducible apply g_if); exact rfl; (fail_if_success (with_reducible show NLit true)); (fail_if_success (with_reducible show NLit false)); exact nLit _))
  all_goals refine ret_s rfl rfl ?_
  all_goals unfold wsI
  all_goals first | (simp_all; done) | (simp_all; omega)
theorem gap2_ok : FnB 37 nendI := by
  intro w μ c hμ h0 h1
  refine call_intro Tryd.func37 rfl Tryd.ntmps37 (by simp) hμ ?_
  repeat' (first | (with_reducible (first | apply gc_seq | apply gc_region | apply g_nil | apply gq_then | apply gc_block | apply gc_exit | apply gc_ret | apply gc_skip | apply gq_then_exit | apply gq_then_ret | apply gq_block_same | apply gq_block_normal | apply gq_block_ret)) | ((with_reducible apply g_p); exact rfl) | ((with_reducible apply g_enter_s); exact rfl; exact rfl; exact rfl; (first | ((with_reducible apply e_call1); kernel_rfl; exact rfl)); exact fun w μc hw hse => isEnd_ok w μc c hw h0 h1) | ((with_reducible apply gc_if); exact rfl) | (with_reducible (first | apply pif_t | apply pif_f | apply pif_not)) | ((with_reducible apply pif_decT); (first | omega | with_reducible assumption | with_reducible rfl)) | ((with_reducible apply pif_decF); (first | omega | with_reducible assumption | with_reducible exact ne_self_f _)) | (((with_reducible apply pif_tt); exact rfl)) | (((with_reducible apply pif_ff); exact rfl)) | (with_reducible (first | refine pif_dec (fun hp => ?_) (fun hp => ?_) | refine pif_b (fun hp => ?_) (fun hp => ?_))) | ((with_reducible apply gq_block_other); exact rfl) | ((with_reducible apply g_if); exact rfl; (fail_if_success (with_reducible show NLit true)); (fail_if_success (with_reducible show NLit false)); exact nLit _))
  all_goals exact ret_s rfl rfl rfl
theorem name1_ok : FnB 54 idI := by
  intro w μ c hμ h0 h1
  refine call_intro Tryd.func54 rfl Tryd.ntmps54 (by simp) hμ ?_
  repeat' (first | (with_reducible (first | apply gc_seq | apply gc_region | apply g_nil | apply gq_then | apply gc_block | apply gc_exit | apply gc_ret | apply gc_skip | apply gq_then_exit | apply gq_then_ret | apply gq_block_same | apply gq_block_normal | apply gq_block_ret)) | ((with_reducible apply g_p); exact rfl) | ((with_reducible show G _ _ _ _ (Oper.mk _ (Op.call (Call.mk (Callee.value (Operand.func 39)) _ _)) _ _ _ _ :: _) _ _ _); (with_reducible apply g_enter_s); exact rfl; exact rfl; exact rfl; (first | ((with_reducible apply e_call1); kernel_rfl; exact rfl)); exact fun w μc hw hse => isLetter_ok w μc c hw h0 h1) | ((with_reducible show G _ _ _ _ (Oper.mk _ (Op.call (Call.mk (Callee.value (Operand.func 41)) _ _)) _ _ _ _ :: _) _ _ _); (with_reducible apply g_enter_s); exact rfl; exact rfl; exact rfl; (first | ((with_reducible apply e_call1); kernel_rfl; exact rfl)); exact fun w μc hw hse => isDigit_ok w μc c hw h0 h1) | ((with_reducible apply gc_if); exact rfl) | (with_reducible (first | apply pif_t | apply pif_f | apply pif_not)) | ((with_reducible apply pif_decT); (first | omega | with_reducible assumption | with_reducible rfl)) | ((with_reducible apply pif_decF); (first | omega | with_reducible assumption | with_reducible exact ne_self_f _)) | (((with_reducible apply pif_tt); exact rfl)) | (((with_reducible apply pif_ff); exact rfl)) | (with_reducible (first | refine pif_dec (fun hp => ?_) (fun hp => ?_) | refine pif_b (fun hp => ?_) (fun hp => ?_))) | ((with_reducible apply gq_block_other); exact rfl) | ((with_reducible apply g_if); exact rfl; (fail_if_success (with_reducible show NLit true)); (fail_if_success (with_reducible show NLit false)); exact nLit _))
  all_goals refine ret_s rfl rfl ?_
  all_goals unfold idI
  all_goals simp_all
theorem hexI_lo (c : Int) : -1 ≤ hexI c := by
  unfold hexI
  repeat' split
  all_goals omega
theorem hexI_hi (c : Int) : hexI c ≤ 15 := by
  unfold hexI
  repeat' split
  all_goals omega
theorem isDigit_at (c : Int) {v : Bool} (h : digI c = v) (h0 : 0 ≤ c) (h1 : c ≤ 255) (w : World) (μ : Mem) (hμ : MOk μ w) : Calls Tryd.prog 41 #[.int .u8 c] w fun e w' => e = .returned (.bool v) ∧ Below w.heap.size w w' := by
  have := isDigit_ok w μ c hμ h0 h1
  rwa [h] at this
theorem isLetter_at (c : Int) {v : Bool} (h : ltrI c = v) (h0 : 0 ≤ c) (h1 : c ≤ 255) (w : World) (μ : Mem) (hμ : MOk μ w) : Calls Tryd.prog 39 #[.int .u8 c] w fun e w' => e = .returned (.bool v) ∧ Below w.heap.size w w' := by
  have := isLetter_ok w μ c hμ h0 h1
  rwa [h] at this
theorem isEnd_at (c : Int) {v : Bool} (h : endI c = v) (h0 : 0 ≤ c) (h1 : c ≤ 255) (w : World) (μ : Mem) (hμ : MOk μ w) : Calls Tryd.prog 34 #[.int .u8 c] w fun e w' => e = .returned (.bool v) ∧ Below w.heap.size w w' := by
  have := isEnd_ok w μ c hμ h0 h1
  rwa [h] at this
theorem hex_spec (c : Int) (h0 : 0 ≤ c) (h1 : c ≤ 255) (w : World) (μ : Mem) (hμ : MOk μ w) :
    Calls Tryd.prog 70 #[.int .u8 c] w fun e w' => e = .returned (.int .i64 (hexI c)) ∧ Below w.heap.size w w' := by
  refine call_intro Tryd.func70 rfl Tryd.ntmps70 (by simp) hμ ?_
  by_cases hd : 48 ≤ c ∧ c ≤ 57
  · have hd' : digI c = true := by simp [digI]; exact hd
    repeat' (first | (with_reducible (first | apply gc_seq | apply gc_region | apply g_nil | apply gq_then | apply gc_block | apply gc_exit | apply gc_ret | apply gc_skip | apply gq_then_exit | apply gq_then_ret | apply gq_block_same | apply gq_block_normal | apply gq_block_ret)) | ((with_reducible apply g_p); exact rfl) | ((with_reducible apply g_enter_s); exact rfl; exact rfl; exact rfl; (first | ((with_reducible apply e_call1); kernel_rfl; exact rfl)); exact fun w μc hw hse => isDigit_at c hd' h0 h1 w μc hw) | ((with_reducible apply gc_if); exact rfl) | (with_reducible (first | apply pif_t | apply pif_f | apply pif_not)) | ((with_reducible apply pif_decT); (first | omega | with_reducible assumption | with_reducible rfl)) | ((with_reducible apply pif_decF); (first | omega | with_reducible assumption | with_reducible exact ne_self_f _)) | (((with_reducible apply pif_tt); exact rfl)) | (((with_reducible apply pif_ff); exact rfl)) | (with_reducible (first | refine pif_dec (fun hp => ?_) (fun hp => ?_) | refine pif_b (fun hp => ?_) (fun hp => ?_))) | ((with_reducible apply g_ar); exact rfl; omega) | ((with_reducible apply g_v); exact rfl; (first | ((with_reducible apply v_conv_int); exact rfl; exact rfl; exact rfl; omega) | ((with_reducible apply arB_sound); exact rfl; omega))) | ((with_reducible apply gq_block_other); exact rfl) | ((with_reducible apply g_if); exact rfl; (fail_if_success (with_reducible show NLit true)); (fail_if_success (with_reducible show NLit false)); exact nLit _))
    all_goals refine ret_s rfl rfl ?_
    all_goals (unfold hexI; rw [if_pos hd])
  · have hd' : digI c = false := by simp [digI]; omega
    repeat' (first | (with_reducible (first | apply gc_seq | apply gc_region | apply g_nil | apply gq_then | apply gc_block | apply gc_exit | apply gc_ret | apply gc_skip | apply gq_then_exit | apply gq_then_ret | apply gq_block_same | apply gq_block_normal | apply gq_block_ret)) | ((with_reducible apply g_p); exact rfl) | ((with_reducible apply g_enter_s); exact rfl; exact rfl; exact rfl; (first | ((with_reducible apply e_call1); kernel_rfl; exact rfl)); exact fun w μc hw hse => isDigit_at c hd' h0 h1 w μc hw) | ((with_reducible apply gc_if); exact rfl) | (with_reducible (first | apply pif_t | apply pif_f | apply pif_not)) | ((with_reducible apply pif_decT); (first | omega | with_reducible assumption | with_reducible rfl)) | ((with_reducible apply pif_decF); (first | omega | with_reducible assumption | with_reducible exact ne_self_f _)) | (((with_reducible apply pif_tt); exact rfl)) | (((with_reducible apply pif_ff); exact rfl)) | (with_reducible (first | refine pif_dec (fun hp => ?_) (fun hp => ?_) | refine pif_b (fun hp => ?_) (fun hp => ?_))) | ((with_reducible apply g_ar); exact rfl; omega) | ((with_reducible apply g_v); exact rfl; (first | ((with_reducible apply v_conv_int); exact rfl; exact rfl; exact rfl; omega) | ((with_reducible apply arB_sound); exact rfl; omega))) | ((with_reducible apply gq_block_other); exact rfl) | ((with_reducible apply g_if); exact rfl; (fail_if_success (with_reducible show NLit true)); (fail_if_success (with_reducible show NLit false)); exact nLit _))
    all_goals refine ret_s rfl rfl ?_
    all_goals congr 1
    all_goals unfold hexI
    all_goals (repeat' split) <;> omega

/-! past -/
theorem past_spec (f : FuncId) (p : Int → Bool) (hc : callable Tryd.prog f = true) (hf : FnB f p) (s : ByteArray) (hs : s.size ≤ 65536) (k : Nat) (hk : k ≤ s.size) (w : World) (μ : Mem) (hμ : MOk μ w) :
    Calls Tryd.prog 32 #[.string s, .int .i64 k, .func (.func f) #[] #[]] w fun e w' => e = .returned (.int .i64 ((k + headN p ((bl s).drop k) : Nat) : Int)) ∧ Below w.heap.size w w' := by
  refine call_intro Tryd.func32 rfl Tryd.ntmps32 (by simp) hμ ?_
  repeat' (first | (with_reducible (first | apply gc_seq | apply gc_region | apply g_nil | apply gq_then | apply gc_block | apply gc_exit | apply gc_ret | apply gc_skip | apply gq_then_exit | apply gq_then_ret | apply gq_block_same | apply gq_block_normal | apply gq_block_ret)) | ((with_reducible apply g_p); exact rfl) | ((with_reducible apply gc_if); exact rfl) | (with_reducible (first | apply pif_t | apply pif_f | apply pif_not)) | ((with_reducible apply pif_decT); (first | omega | with_reducible assumption | with_reducible rfl)) | ((with_reducible apply pif_decF); (first | omega | with_reducible assumption | with_reducible exact ne_self_f _)) | (((with_reducible apply pif_tt); exact rfl)) | (((with_reducible apply pif_ff); exact rfl)) | (with_reducible (first | refine pif_dec (fun hp => ?_) (fun hp => ?_) | refine pif_b (fun hp => ?_) (fun hp => ?_))) | ((with_reducible apply g_ar); exact rfl; omega) | ((with_reducible apply g_v); exact rfl; (first | ((with_reducible apply v_sindex_n); exact rfl; exact rfl; exact rfl; omega) | ((with_reducible apply arB_sound); exact rfl; omega) | ((with_reducible apply v_len_row 0); exact rfl; exact rfl; exact rfl) | ((with_reducible apply v_len_row 1); exact rfl; exact rfl; exact rfl) | ((with_reducible apply v_len_row 2); exact rfl; exact rfl; exact rfl) | ((with_reducible apply v_len_row 3); exact rfl; exact rfl; exact rfl))) | ((with_reducible apply gq_block_other); exact rfl) | ((with_reducible apply g_if); exact rfl; (fail_if_success (with_reducible show NLit true)); (fail_if_success (with_reducible show NLit false)); exact nLit _))
  refine gc_loop (ι := Nat) (fun i => i ≤ s.size ∧ k + headN p ((bl s).drop k) = i + headN p ((bl s).drop i)) (fun i => s.size - i) (fun _ => μ) (fun i => [(1, .int .i64 i), (0, .string s), (2, .func (.func f) #[] #[])]) (fun _ => []) k ⟨hk, rfl⟩ (fun a w hs => hs.sub (by repeat first | exact subS_nil | refine subS_cons rfl ?_) (by repeat first | exact List.Sublist.refl _ | exact List.nil_sublist _ | refine List.Sublist.cons _ ?_)) ?_
  rintro i ⟨hi, hJ⟩
  by_cases hlt : i < s.size
  · obtain ⟨b, hb1, hb2⟩ := bl_at hlt
    have h1 := bAt_lo s i
    have h2 := bAt_hi s i
    rw [drop_cons hb1, headN] at hJ
    have e : on8 p b = p (bAt s i) := by rw [hb2]
    rw [e] at hJ
    repeat' (first | (with_reducible (first | apply gc_seq | apply gc_region | apply g_nil | apply gq_then | apply gc_block | apply gc_exit | apply gc_ret | apply gc_skip | apply gq_then_exit | apply gq_then_ret | apply gq_block_same | apply gq_block_normal | apply gq_block_ret)) | ((with_reducible apply g_p); exact rfl) | ((with_reducible apply g_enter_s); exact rfl; exact rfl; exact rfl; (first | ((with_reducible apply e_callv1); exact rfl; (first | assumption | kernel_rfl); exact rfl)); exact fun w μc hw hse => hf w μc _ hw h1 h2) | ((with_reducible apply gc_if); exact rfl) | (with_reducible (first | apply pif_t | apply pif_f | apply pif_not)) | ((with_reducible apply pif_decT); (first | omega | with_reducible assumption | with_reducible rfl)) | ((with_reducible apply pif_decF); (first | omega | with_reducible assumption | with_reducible exact ne_self_f _)) | (((with_reducible apply pif_tt); exact rfl)) | (((with_reducible apply pif_ff); exact rfl)) | (with_reducible (first | refine pif_dec (fun hp => ?_) (fun hp => ?_) | refine pif_b (fun hp => ?_) (fun hp => ?_))) | ((with_reducible apply g_ar); exact rfl; omega) | ((with_reducible apply g_v); exact rfl; (first | ((with_reducible apply v_sindex_n); exact rfl; exact rfl; exact rfl; omega) | ((with_reducible apply arB_sound); exact rfl; omega) | ((with_reducible apply v_len_row 0); exact rfl; exact rfl; exact rfl) | ((with_reducible apply v_len_row 1); exact rfl; exact rfl; exact rfl) | ((with_reducible apply v_len_row 2); exact rfl; exact rfl; exact rfl) | ((with_reducible apply v_len_row 3); exact rfl; exact rfl; exact rfl))) | ((with_reducible apply gq_block_other); exact rfl) | ((with_reducible apply g_if); exact rfl; (fail_if_success (with_reducible show NLit true)); (fail_if_success (with_reducible show NLit false)); exact nLit _))
    · rw [if_pos hp] at hJ
      refine gq_back (i + 1) ⟨by omega, ?_⟩ (by omega) rfl (by repeat first | exact subS_nil | refine subS_cons rfl ?_) (by repeat first | exact List.Sublist.refl _ | exact List.nil_sublist _ | refine List.Sublist.cons _ ?_)
      omega
    · refine ret_s rfl rfl ?_
      rw [hJ, hp]; simp
  · rw [drop_end (i := i) (by omega), headN] at hJ
    repeat' (first | (with_reducible (first | apply gc_seq | apply gc_region | apply g_nil | apply gq_then | apply gc_block | apply gc_exit | apply gc_ret | apply gc_skip | apply gq_then_exit | apply gq_then_ret | apply gq_block_same | apply gq_block_normal | apply gq_block_ret)) | ((with_reducible apply g_p); exact rfl) | ((with_reducible apply gc_if); exact rfl) | (with_reducible (first | apply pif_t | apply pif_f | apply pif_not)) | ((with_reducible apply pif_decT); (first | omega | with_reducible assumption | with_reducible rfl)) | ((with_reducible apply pif_decF); (first | omega | with_reducible assumption | with_reducible exact ne_self_f _)) | (((with_reducible apply pif_tt); exact rfl)) | (((with_reducible apply pif_ff); exact rfl)) | (with_reducible (first | refine pif_dec (fun hp => ?_) (fun hp => ?_) | refine pif_b (fun hp => ?_) (fun hp => ?_))) | ((with_reducible apply g_ar); exact rfl; omega) | ((with_reducible apply g_v); exact rfl; (first | ((with_reducible apply v_sindex_n); exact rfl; exact rfl; exact rfl; omega) | ((with_reducible apply arB_sound); exact rfl; omega) | ((with_reducible apply v_len_row 0); exact rfl; exact rfl; exact rfl) | ((with_reducible apply v_len_row 1); exact rfl; exact rfl; exact rfl) | ((with_reducible apply v_len_row 2); exact rfl; exact rfl; exact rfl) | ((with_reducible apply v_len_row 3); exact rfl; exact rfl; exact rfl))) | ((with_reducible apply gq_block_other); exact rfl) | ((with_reducible apply g_if); exact rfl; (fail_if_success (with_reducible show NLit true)); (fail_if_success (with_reducible show NLit false)); exact nLit _))
    exact ret_s rfl rfl (by rw [hJ]; simp)
end Go.Proofs.YtnodfbjbcmkkhaaDoor
