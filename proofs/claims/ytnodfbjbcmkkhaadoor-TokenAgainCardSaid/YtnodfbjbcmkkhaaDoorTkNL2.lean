/- strings.ContainsAny at the two line terminators: its contract at this program. No statement of the seat is proved here. -/
import Derived.Test.YtnodfbjbcmkkhaaDoorTkNL
import Derived.Test.YtnodfbjbcmkkhaaDoorTkP
import Derived.Scope
set_option maxRecDepth 20000
namespace Go.Vcg
open Go.RowKit
section
variable {P : Program} {X : Ctx} {Q : Exit → Act → World → Prop} {μ : Mem} {l : Slots} {L : List Bk}
theorem gc_scope {c : Code} (h : GC P X c (Exit.noGoto Q) μ l L) : GC P X (.scope c) Q μ l L := fun a w hs => wp_scope_straight (h a w hs)
theorem gq_noGoto_n (h : GQ X Q .normal μ l L) : GQ X (Exit.noGoto Q) .normal μ l L := h
theorem gq_noGoto_r (h : GQ X Q .ret μ l L) : GQ X (Exit.noGoto Q) .ret μ l L := h
theorem gq_noGoto_e {i : Nat} (h : GQ X Q (.exit i) μ l L) : GQ X (Exit.noGoto Q) (.exit i) μ l L := h
variable {ty : TypeId} {pos : String} {af : Array Edge} {gd : Option (Nat × Bool)} {ds : Option Nat}
theorem v_conv_str {p : Operand} {t u : TypeId} {k : IntKind} {x : Int} (hx0 : ev l p = some (.int k x)) (ht : P.underlying t = some (.int k)) (hu : P.underlying u = some .string) : Val P μ l L ⟨ds, .convert t u p, ty, pos, af, gd⟩ (.string (Utf8.encode x)) :=
  fun a w hs => by have e0 := hs.eval hx0; generalize a.eval = ρ at e0; simp [execOp, e0, convert, run_underlying ht, run_underlying hu, Conv.intToString]
end
end Go.Vcg
namespace Go.Proofs.YtnodfbjbcmkkhaaDoor
open Go.RowKit Go.Vcg
theorem indexAny_any (chars : List UInt8) : ∀ l : List UInt8, decide (0 ≤ Lib.indexAny l chars) = l.any chars.contains
  | [] => rfl
  | b :: l => by
    unfold Lib.indexAny
    simp only [List.any_cons]
    rw [← indexAny_any chars l]
    have := Lib.indexAny_ge chars l
    cases h : chars.contains b with
    | true => simp
    | false =>
      simp only [Bool.false_eq_true, if_false, Bool.false_or]
      by_cases h2 : Lib.indexAny l chars = -1
      · rw [h2]; decide
      · rw [if_neg (by simpa using h2)]
        congr 1
        apply propext
        constructor <;> intro <;> omega
theorem any_end (l : List UInt8) : l.any ([10, 13] : List UInt8).contains = l.any (on8 endI) := by
  congr 1
  funext b
  simp only [on8, endI, List.contains_cons, List.contains_nil, Bool.or_false]
  have h1 : (b == 10) = decide ((b.toNat : Int) = 10) := by
    rw [Bool.eq_iff_iff]
    simp only [beq_iff_eq, decide_eq_true_eq]
    constructor
    · rintro rfl; rfl
    · intro h; apply UInt8.toNat_inj.1; show b.toNat = 10; omega
  have h2 : (b == 13) = decide ((b.toNat : Int) = 13) := by
    rw [Bool.eq_iff_iff]
    simp only [beq_iff_eq, decide_eq_true_eq]
    constructor
    · rintro rfl; rfl
    · intro h; apply UInt8.toNat_inj.1; show b.toNat = 13; omega
  rw [h1, h2]
attribute [local irreducible] G GC GQ GA GAop Calls IntKind.wrap Int.decLt Int.decLe
theorem hasPre_spec (s p : ByteArray) (hs : s.size ≤ 9223372036854775807) (hp' : p.size ≤ 9223372036854775807) (w : World) (μ : Mem) (hμ : MOk μ w) :
    Calls Tryd.prog 52 #[.string s, .string p] w fun e w' => e = .returned (.bool (decide ((bl s).take p.size = bl p))) ∧ Below w.heap.size w w' := by
  refine call_intro Tryd.func52 rfl Tryd.ntmps52 (by simp) hμ ?_
  repeat' (first | (with_reducible (first | apply gc_seq | apply gc_region | apply g_nil | apply gq_then | apply gc_block | apply gc_exit | apply gc_ret | apply gc_skip | apply gq_then_exit | apply gq_then_ret | apply gq_block_same | apply gq_block_normal | apply gq_block_ret)) | ((with_reducible apply g_p); exact rfl) | ((with_reducible apply gc_if); exact rfl) | (with_reducible (first | apply pif_t | apply pif_f | apply pif_not)) | ((with_reducible apply pif_decT); (first | omega | with_reducible assumption | with_reducible rfl)) | ((with_reducible apply pif_decF); (first | omega | with_reducible assumption | with_reducible exact ne_self_f _)) | (((with_reducible apply pif_tt); exact rfl)) | (((with_reducible apply pif_ff); exact rfl)) | (with_reducible (first | refine pif_dec (fun hp => ?_) (fun hp => ?_) | refine pif_b (fun hp => ?_) (fun hp => ?_))) | ((with_reducible apply g_v); exact rfl; (first | ((with_reducible apply v_str_hi p.size); exact rfl; exact rfl; exact rfl; exact rfl; omega) | ((with_reducible apply v_aggeql); exact rfl; exact rfl; exact rfl; kernel_rfl; kernel_rfl; kernel_rfl; kernel_rfl) | ((with_reducible apply v_len_row 0); exact rfl; exact rfl; exact rfl) | ((with_reducible apply v_len_row 1); exact rfl; exact rfl; exact rfl) | ((with_reducible apply v_len_row 2); exact rfl; exact rfl; exact rfl) | ((with_reducible apply v_len_row 3); exact rfl; exact rfl; exact rfl) | ((with_reducible apply v_slice_arr); exact rfl; exact rfl; exact rfl))) | ((with_reducible apply gq_block_other); exact rfl) | ((with_reducible apply g_if); exact rfl; (fail_if_success (with_reducible show NLit true)); (fail_if_success (with_reducible show NLit false)); exact nLit _))
  · refine ret_s rfl rfl ?_
    congr 2
    apply propext
    constructor
    · intro h
      have := congrArg bl h
      rw [bl_extract] at this
      simpa using this
    · intro h
      apply bl_inj
      rw [bl_extract]
      simpa using h
  · refine ret_s rfl rfl ?_
    have : ¬ (bl s).take p.size = bl p := fun h => by
      have := congrArg List.length h
      rw [List.length_take, bl_len, bl_len] at this
      omega
    simp [this]
theorem hasPrefix_spec (s p : ByteArray) (hs : s.size ≤ 9223372036854775807) (hp' : p.size ≤ 9223372036854775807) (w : World) (μ : Mem) (hμ : MOk μ w) :
    Calls Tryd.prog 36 #[.string s, .string p] w fun e w' => e = .returned (.bool (decide ((bl s).take p.size = bl p))) ∧ Below w.heap.size w w' := by
  refine call_intro Tryd.func36 rfl Tryd.ntmps36 (by simp) hμ ?_
  repeat' (first | (with_reducible (first | apply gc_seq | apply gc_region | apply g_nil | apply gq_then | apply gc_block | apply gc_exit | apply gc_ret | apply gc_skip | apply gq_then_exit | apply gq_then_ret | apply gq_block_same | apply gq_block_normal | apply gq_block_ret)) | ((with_reducible apply g_p); exact rfl) | ((with_reducible apply g_enter_s); exact rfl; exact rfl; exact rfl; (first | ((with_reducible apply e_call2); kernel_rfl; exact rfl; exact rfl)); exact fun w μc hw hse => hasPre_spec s p hs hp' w μc hw) | ((with_reducible apply gc_if); exact rfl) | (with_reducible (first | apply pif_t | apply pif_f | apply pif_not)) | ((with_reducible apply pif_decT); (first | omega | with_reducible assumption | with_reducible rfl)) | ((with_reducible apply pif_decF); (first | omega | with_reducible assumption | with_reducible exact ne_self_f _)) | (((with_reducible apply pif_tt); exact rfl)) | (((with_reducible apply pif_ff); exact rfl)) | (with_reducible (first | refine pif_dec (fun hp => ?_) (fun hp => ?_) | refine pif_b (fun hp => ?_) (fun hp => ?_))) | ((with_reducible apply gq_block_other); exact rfl) | ((with_reducible apply g_if); exact rfl; (fail_if_success (with_reducible show NLit true)); (fail_if_success (with_reducible show NLit false)); exact nLit _))
  exact ret_s rfl rfl rfl
theorem indexByte_spec (s : ByteArray) (c : Int) (w : World) (μ : Mem) (hμ : MOk μ w) :
    Calls Tryd.prog 24 #[.string s, .int .u8 c] w fun e w' => e = .returned (.int .i64 (Lib.indexByte (bl s) c.toNat.toUInt8)) ∧ Below w.heap.size w w' :=
  (Any.strings_IndexByte Tryd.lays137 s c w).mono fun e w' ⟨h1, h2⟩ => ⟨h1, h2 ▸ Below.refl _ _⟩
theorem indexByte_neg (s : ByteArray) (c : Int) (h : Lib.indexByte (bl s) c.toNat.toUInt8 = -1) (w : World) (μ : Mem) (hμ : MOk μ w) :
    Calls Tryd.prog 24 #[.string s, .int .u8 c] w fun e w' => e = .returned (.int .i64 (-1)) ∧ Below w.heap.size w w' := by
  have := indexByte_spec s c w μ hμ
  rwa [h] at this
theorem validRune_spec (r : Int) (h2 : Utf8.valid r = true) (w : World) (μ : Mem) (hμ : MOk μ w) :
    Calls Tryd.prog 73 #[.int .i32 r] w fun e w' => e = .returned (.bool true) ∧ Below w.heap.size w w' := by
  refine call_intro Tryd.func73 rfl Tryd.ntmps73 (by simp) hμ ?_
  simp [Utf8.valid] at h2
  repeat' (first | (with_reducible (first | apply gc_seq | apply gc_region | apply g_nil | apply gq_then | apply gc_block | apply gc_exit | apply gc_ret | apply gc_skip | apply gq_then_exit | apply gq_then_ret | apply gq_block_same | apply gq_block_normal | apply gq_block_ret)) | ((with_reducible apply g_p); exact rfl) | ((with_reducible apply gc_if); exact rfl) | (with_reducible (first | apply pif_t | apply pif_f | apply pif_not)) | ((with_reducible apply pif_decT); (first | omega | with_reducible assumption | with_reducible rfl)) | ((with_reducible apply pif_decF); (first | omega | with_reducible assumption | with_reducible exact ne_self_f _)) | (((with_reducible apply pif_tt); exact rfl)) | (((with_reducible apply pif_ff); exact rfl)) | (with_reducible (first | refine pif_dec (fun hp => ?_) (fun hp => ?_) | refine pif_b (fun hp => ?_) (fun hp => ?_))) | ((with_reducible apply gq_block_other); exact rfl) | ((with_reducible apply g_if); exact rfl; (fail_if_success (with_reducible show NLit true)); (fail_if_success (with_reducible show NLit false)); exact nLit _))
  all_goals first | (exact ret_s rfl rfl rfl) | (exfalso; omega)
theorem rune_nl_ok (w : World) (μ : Mem) (hμ : MOk μ w) (r : Int) (h1 : 128 ≤ r) (h2 : Utf8.valid r = true) (h3 : ¬ r = 65533) :
    Calls Tryd.prog 63 #[.string nlS, .int .i32 r] w fun e w' => e = .returned (.int .i64 (-1)) ∧ Below w.heap.size w w' := by
  obtain ⟨n, x, hn, hn2, hx, hx8⟩ := encode_last h1 h2
  have hz2 : nlS.size = 2 := rfl
  refine call_intro Tryd.func63 rfl Tryd.ntmps63 (by simp) hμ ?_
  repeat' (first | (with_reducible (first | apply gc_scope | apply gq_noGoto_n | apply gq_noGoto_r | apply gq_noGoto_e)) | (with_reducible (first | apply gc_seq | apply gc_region | apply g_nil | apply gq_then | apply gc_block | apply gc_exit | apply gc_ret | apply gc_skip | apply gq_then_exit | apply gq_then_ret | apply gq_block_same | apply gq_block_normal | apply gq_block_ret)) | ((with_reducible apply g_p); exact rfl) | ((with_reducible show G _ _ _ _ (Oper.mk _ (Op.call (Call.mk (Callee.value (Operand.func 73)) _ _)) _ _ _ _ :: _) _ _ _); (with_reducible apply g_enter_s); exact rfl; exact rfl; exact rfl; (first | ((with_reducible apply e_call1); kernel_rfl; exact rfl) | ((with_reducible apply e_call2); kernel_rfl; exact rfl; exact rfl)); exact fun w μc hw hse => validRune_spec r h2 w μc hw) | ((with_reducible apply gc_if); exact rfl) | (with_reducible (first | apply pif_t | apply pif_f | apply pif_not)) | ((with_reducible apply pif_decT); (first | omega | with_reducible assumption | with_reducible rfl)) | ((with_reducible apply pif_decF); (first | omega | with_reducible assumption | with_reducible exact ne_self_f _)) | (((with_reducible apply pif_tt); exact rfl)) | (((with_reducible apply pif_ff); exact rfl)) | (with_reducible (first | refine pif_dec (fun hp => ?_) (fun hp => ?_) | refine pif_b (fun hp => ?_) (fun hp => ?_))) | ((with_reducible apply g_ar); exact rfl; omega) | ((with_reducible apply g_v); exact rfl; (first | ((with_reducible apply v_conv_str); exact rfl; exact rfl; exact rfl) | ((with_reducible apply v_sindex_n); exact rfl; exact rfl; exact rfl; omega) | ((with_reducible apply v_conv_int); exact rfl; exact rfl; exact rfl; omega) | ((with_reducible apply arB_sound); exact rfl; omega) | ((with_reducible apply v_aggeql); exact rfl; exact rfl; exact rfl; kernel_rfl; kernel_rfl; kernel_rfl; kernel_rfl) | ((with_reducible apply v_len_row 0); exact rfl; exact rfl; exact rfl) | ((with_reducible apply v_len_row 1); exact rfl; exact rfl; exact rfl) | ((with_reducible apply v_len_row 2); exact rfl; exact rfl; exact rfl) | ((with_reducible apply v_len_row 3); exact rfl; exact rfl; exact rfl) | ((with_reducible apply v_slice_arr); exact rfl; exact rfl; exact rfl))) | ((with_reducible apply gq_block_other); exact rfl) | ((with_reducible apply g_if); exact rfl; (fail_if_success (with_reducible show NLit true)); (fail_if_success (with_reducible show NLit false)); exact nLit _))
  have hb1 : bAt (Utf8.encode r) (n + 1) = x.toNat := by
    have hlt : n + 1 < (Utf8.encode r).size := by omega
    unfold bAt
    have : (Utf8.encode r).data.toList[n + 1]? = some x := by
      rw [← hx hlt]
      exact Lib.data_getElem? _ _ hlt
    rw [this]; rfl
  have hb0 : bAt nlS 1 = 13 := rfl
  have hi1 : ∀ c : Int, Lib.indexByte (bl (nlS.extract 2 nlS.size)) c.toNat.toUInt8 = -1 := fun c => rfl
  refine gc_loop (ι := Unit) (fun _ => True) (fun _ => 0) (fun _ => μ) (fun _ => [(0, .string nlS), (7, .string (Utf8.encode r)), (8, .int .i64 (((Utf8.encode r).size : Int) - 1)), (9, .int .i64 (((Utf8.encode r).size : Int) - 1))]) (fun _ => []) () trivial (fun a w hs => hs.sub (by repeat first | exact subS_nil | refine subS_cons rfl ?_) (by repeat first | exact List.Sublist.refl _ | exact List.nil_sublist _ | refine List.Sublist.cons _ ?_)) ?_
  rintro ⟨⟩ -
  rcases Nat.eq_zero_or_pos n with rfl | hn0
  · have hne : ¬ bAt nlS 1 = bAt (Utf8.encode r) 1 := by rw [hb0, hb1]; omega
    repeat' (first | (with_reducible (first | apply gc_scope | apply gq_noGoto_n | apply gq_noGoto_r | apply gq_noGoto_e)) | (with_reducible (first | apply gc_seq | apply gc_region | apply g_nil | apply gq_then | apply gc_block | apply gc_exit | apply gc_ret | apply gc_skip | apply gq_then_exit | apply gq_then_ret | apply gq_block_same | apply gq_block_normal | apply gq_block_ret)) | ((with_reducible apply g_p); exact rfl) | ((with_reducible apply gc_if); exact rfl) | (with_reducible (first | apply pif_t | apply pif_f | apply pif_not)) | ((with_reducible apply pif_decT); (first | omega | with_reducible assumption | with_reducible rfl)) | ((with_reducible apply pif_decF); (first | omega | with_reducible assumption | with_reducible exact ne_self_f _)) | (((with_reducible apply pif_tt); exact rfl)) | (((with_reducible apply pif_ff); exact rfl)) | (with_reducible (first | refine pif_dec (fun hp => ?_) (fun hp => ?_) | refine pif_b (fun hp => ?_) (fun hp => ?_))) | ((with_reducible apply g_ar); exact rfl; omega) | ((with_reducible apply g_v); exact rfl; (first | ((with_reducible apply v_sindex_n); exact rfl; exact rfl; exact rfl; omega) | ((with_reducible apply v_conv_int); exact rfl; exact rfl; exact rfl; omega) | ((with_reducible apply arB_sound); exact rfl; omega) | ((with_reducible apply v_aggeql); exact rfl; exact rfl; exact rfl; kernel_rfl; kernel_rfl; kernel_rfl; kernel_rfl) | ((with_reducible apply v_len_row 0); exact rfl; exact rfl; exact rfl) | ((with_reducible apply v_len_row 1); exact rfl; exact rfl; exact rfl) | ((with_reducible apply v_len_row 2); exact rfl; exact rfl; exact rfl) | ((with_reducible apply v_len_row 3); exact rfl; exact rfl; exact rfl) | ((with_reducible apply v_slice_arr); exact rfl; exact rfl; exact rfl))) | ((with_reducible apply gq_block_other); exact rfl) | ((with_reducible apply g_if); exact rfl; (fail_if_success (with_reducible show NLit true)); (fail_if_success (with_reducible show NLit false)); exact nLit _))
    refine gc_draw 7 (_) (by kernel_rfl) rfl (by first | exact List.Sublist.refl _ | simp) ?_
    all_goals ((with_reducible apply ga_p 0); exact rfl; kernel_rfl; (exact fun _ _ _ h => h))
    all_goals ((with_reducible apply ga_p 1); exact rfl; kernel_rfl; (exact fun _ _ _ h => h))
    all_goals (first | ((with_reducible apply ga_p 2); exact rfl; kernel_rfl; (exact fun _ _ _ h => h)) | ((with_reducible apply ga_v 2); exact rfl; kernel_rfl; (exact fun _ _ _ h => h); (first | ((with_reducible apply v_sindex 1); exact rfl; exact rfl; exact rfl; (first | exact rfl | omega); omega) | ((with_reducible apply v_sindex_n); exact rfl; exact rfl; exact rfl; omega))))
    all_goals ((with_reducible apply ga_p 3); exact rfl; kernel_rfl; (exact fun _ _ _ h => h))
    all_goals ((with_reducible apply ga_p 4); exact rfl; kernel_rfl; (exact fun _ _ _ h => h))
    all_goals (first | ((with_reducible apply ga_p 5); exact rfl; kernel_rfl; (exact fun _ _ _ h => h)) | ((with_reducible apply ga_v 5); exact rfl; kernel_rfl; (exact fun _ _ _ h => h); (first | ((with_reducible apply v_sindex 1); exact rfl; exact rfl; exact rfl; (first | exact rfl | omega); omega) | ((with_reducible apply v_sindex_n); exact rfl; exact rfl; exact rfl; omega))))
    all_goals (first | ((with_reducible apply ga_p 6); exact rfl; kernel_rfl; (exact fun _ _ _ h => h)) | ((with_reducible apply ga_v 6); exact rfl; kernel_rfl; (exact fun _ _ _ h => h); (first | ((with_reducible apply v_sindex 1); exact rfl; exact rfl; exact rfl; (first | exact rfl | omega); omega) | ((with_reducible apply arI_sound); exact rfl; omega) | ((with_reducible apply v_aggneq); exact rfl; exact rfl; exact rfl; kernel_rfl; kernel_rfl; kernel_rfl; kernel_rfl))))
    all_goals ((with_reducible apply ga_done); kernel_rfl)
    repeat' (first | (with_reducible (first | apply gc_scope | apply gq_noGoto_n | apply gq_noGoto_r | apply gq_noGoto_e)) | (with_reducible (first | apply gc_seq | apply gc_region | apply g_nil | apply gq_then | apply gc_block | apply gc_exit | apply gc_ret | apply gc_skip | apply gq_then_exit | apply gq_then_ret | apply gq_block_same | apply gq_block_normal | apply gq_block_ret)) | ((with_reducible apply g_p); exact rfl) | ((with_reducible apply gc_if); exact rfl) | (with_reducible (first | apply pif_t | apply pif_f | apply pif_not)) | ((with_reducible apply pif_decT); (first | omega | with_reducible assumption | with_reducible rfl)) | ((with_reducible apply pif_decF); (first | omega | with_reducible assumption | with_reducible exact ne_self_f _)) | (((with_reducible apply pif_tt); exact rfl)) | (((with_reducible apply pif_ff); exact rfl)) | (with_reducible (first | refine pif_dec (fun hp => ?_) (fun hp => ?_) | refine pif_b (fun hp => ?_) (fun hp => ?_))) | ((with_reducible apply g_ar); exact rfl; omega) | ((with_reducible apply g_v); exact rfl; (first | ((with_reducible apply v_sindex_n); exact rfl; exact rfl; exact rfl; omega) | ((with_reducible apply v_conv_int); exact rfl; exact rfl; exact rfl; omega) | ((with_reducible apply arB_sound); exact rfl; omega) | ((with_reducible apply v_aggeql); exact rfl; exact rfl; exact rfl; kernel_rfl; kernel_rfl; kernel_rfl; kernel_rfl) | ((with_reducible apply v_len_row 0); exact rfl; exact rfl; exact rfl) | ((with_reducible apply v_len_row 1); exact rfl; exact rfl; exact rfl) | ((with_reducible apply v_len_row 2); exact rfl; exact rfl; exact rfl) | ((with_reducible apply v_len_row 3); exact rfl; exact rfl; exact rfl) | ((with_reducible apply v_slice_arr); exact rfl; exact rfl; exact rfl))) | ((with_reducible apply gq_block_other); exact rfl) | ((with_reducible apply g_if); exact rfl; (fail_if_success (with_reducible show NLit true)); (fail_if_success (with_reducible show NLit false)); exact nLit _))
    refine gc_draw 9 (_) (by kernel_rfl) rfl (by first | exact List.Sublist.refl _ | simp) ?_
    all_goals ((with_reducible apply ga_p 0); exact rfl; kernel_rfl; (exact fun _ _ _ h => h))
    all_goals ((with_reducible apply ga_p 1); exact rfl; kernel_rfl; (exact fun _ _ _ h => h))
    all_goals (first | ((with_reducible apply ga_p 2); exact rfl; kernel_rfl; (exact fun _ _ _ h => h)) | ((with_reducible apply ga_v 2); exact rfl; kernel_rfl; (exact fun _ _ _ h => h); (first | ((with_reducible apply v_sindex 1); exact rfl; exact rfl; exact rfl; (first | exact rfl | omega); omega) | ((with_reducible apply v_str_lo 2); exact rfl; exact rfl; exact rfl; omega; omega) | ((with_reducible apply arB_sound); exact rfl; omega) | ((with_reducible apply arI_sound); exact rfl; omega))))
    all_goals (first | ((with_reducible apply ga_p 3); exact rfl; kernel_rfl; (exact fun _ _ _ h => h)) | ((with_reducible apply ga_v 3); exact rfl; kernel_rfl; (exact fun _ _ _ h => h); (first | ((with_reducible apply v_sindex 1); exact rfl; exact rfl; exact rfl; (first | exact rfl | omega); omega) | ((with_reducible apply v_str_lo 2); exact rfl; exact rfl; exact rfl; omega; omega) | ((with_reducible apply v_slice_arr); exact rfl; exact rfl; exact rfl))))
    all_goals ((with_reducible apply ga_p 4); exact rfl; kernel_rfl; (exact fun _ _ _ h => h))
    all_goals ((with_reducible apply ga_p 5); exact rfl; kernel_rfl; (exact fun _ _ _ h => h))
    all_goals (first | ((with_reducible apply ga_p 6); exact rfl; kernel_rfl; (exact fun _ _ _ h => h)) | ((with_reducible apply ga_v 6); exact rfl; kernel_rfl; (exact fun _ _ _ h => h); (first | ((with_reducible apply v_sindex 1); exact rfl; exact rfl; exact rfl; (first | exact rfl | omega); omega) | ((with_reducible apply v_str_lo 2); exact rfl; exact rfl; exact rfl; omega; omega) | ((with_reducible apply v_sindex_n); exact rfl; exact rfl; exact rfl; omega))))
    all_goals (first | ((with_reducible apply ga_all1 7); kernel_rfl; (with_reducible apply gaop_g); exact rfl; (first | ((with_reducible apply g_enter_s); exact rfl; exact rfl; exact rfl; (first | ((with_reducible apply e_call2); kernel_rfl; exact rfl; exact rfl)); exact fun w μc hw hse => indexByte_neg _ _ (hi1 _) w μc hw)); (with_reducible apply g_ga_nil); (first | exact MLe.refl _ | assumption | exact MLe.trans ‹_› ‹_›); (repeat first | exact List.Sublist.refl _ | exact List.nil_sublist _ | refine List.Sublist.cons_cons _ ?_ | refine List.Sublist.cons _ ?_)))
    all_goals ((with_reducible apply ga_p 8); exact rfl; kernel_rfl; (exact fun _ _ _ h => h))
    all_goals ((with_reducible apply ga_done); kernel_rfl)
    repeat' (first | (with_reducible (first | apply gq_noGoto_n | apply gq_noGoto_r | apply gq_noGoto_e)) | (with_reducible (first | apply gc_seq | apply gc_region | apply g_nil | apply gq_then | apply gc_block | apply gc_exit | apply gc_ret | apply gc_skip | apply gq_then_exit | apply gq_then_ret | apply gq_block_same | apply gq_block_normal | apply gq_block_ret)) | ((with_reducible apply g_p); exact rfl) | ((with_reducible apply gc_if); exact rfl) | (with_reducible (first | apply pif_t | apply pif_f | apply pif_not)) | ((with_reducible apply pif_decT); (first | omega | with_reducible assumption | with_reducible rfl)) | ((with_reducible apply pif_decF); (first | omega | with_reducible assumption | with_reducible exact ne_self_f _)) | (((with_reducible apply pif_tt); exact rfl)) | (((with_reducible apply pif_ff); exact rfl)) | (with_reducible (first | refine pif_dec (fun hp => ?_) (fun hp => ?_) | refine pif_b (fun hp => ?_) (fun hp => ?_))) | ((with_reducible apply g_ar); exact rfl; omega) | ((with_reducible apply g_v); exact rfl; (first | ((with_reducible apply v_sindex_n); exact rfl; exact rfl; exact rfl; omega) | ((with_reducible apply v_conv_int); exact rfl; exact rfl; exact rfl; omega) | ((with_reducible apply arB_sound); exact rfl; omega) | ((with_reducible apply v_aggeql); exact rfl; exact rfl; exact rfl; kernel_rfl; kernel_rfl; kernel_rfl; kernel_rfl) | ((with_reducible apply v_len_row 0); exact rfl; exact rfl; exact rfl) | ((with_reducible apply v_len_row 1); exact rfl; exact rfl; exact rfl) | ((with_reducible apply v_len_row 2); exact rfl; exact rfl; exact rfl) | ((with_reducible apply v_len_row 3); exact rfl; exact rfl; exact rfl) | ((with_reducible apply v_slice_arr); exact rfl; exact rfl; exact rfl))) | ((with_reducible apply gq_block_other); exact rfl) | ((with_reducible apply g_if); exact rfl; (fail_if_success (with_reducible show NLit true)); (fail_if_success (with_reducible show NLit false)); exact nLit _))
    exact ret_s rfl rfl rfl
  · repeat' (first | (with_reducible (first | apply gq_noGoto_n | apply gq_noGoto_r | apply gq_noGoto_e)) | (with_reducible (first | apply gc_seq | apply gc_region | apply g_nil | apply gq_then | apply gc_block | apply gc_exit | apply gc_ret | apply gc_skip | apply gq_then_exit | apply gq_then_ret | apply gq_block_same | apply gq_block_normal | apply gq_block_ret)) | ((with_reducible apply g_p); exact rfl) | ((with_reducible apply gc_if); exact rfl) | (with_reducible (first | apply pif_t | apply pif_f | apply pif_not)) | ((with_reducible apply pif_decT); (first | omega | with_reducible assumption | with_reducible rfl)) | ((with_reducible apply pif_decF); (first | omega | with_reducible assumption | with_reducible exact ne_self_f _)) | (((with_reducible apply pif_tt); exact rfl)) | (((with_reducible apply pif_ff); exact rfl)) | (with_reducible (first | refine pif_dec (fun hp => ?_) (fun hp => ?_) | refine pif_b (fun hp => ?_) (fun hp => ?_))) | ((with_reducible apply g_ar); exact rfl; omega) | ((with_reducible apply g_v); exact rfl; (first | ((with_reducible apply v_sindex_n); exact rfl; exact rfl; exact rfl; omega) | ((with_reducible apply v_conv_int); exact rfl; exact rfl; exact rfl; omega) | ((with_reducible apply arB_sound); exact rfl; omega) | ((with_reducible apply v_aggeql); exact rfl; exact rfl; exact rfl; kernel_rfl; kernel_rfl; kernel_rfl; kernel_rfl) | ((with_reducible apply v_len_row 0); exact rfl; exact rfl; exact rfl) | ((with_reducible apply v_len_row 1); exact rfl; exact rfl; exact rfl) | ((with_reducible apply v_len_row 2); exact rfl; exact rfl; exact rfl) | ((with_reducible apply v_len_row 3); exact rfl; exact rfl; exact rfl) | ((with_reducible apply v_slice_arr); exact rfl; exact rfl; exact rfl))) | ((with_reducible apply gq_block_other); exact rfl) | ((with_reducible apply g_if); exact rfl; (fail_if_success (with_reducible show NLit true)); (fail_if_success (with_reducible show NLit false)); exact nLit _))
    exact ret_s rfl rfl rfl
theorem rune_nl (r : Int) (w : World) (h1 : 128 ≤ r) (h2 : Utf8.valid r = true) :
    Calls Tryd.prog 63 #[.string nlS, .int .i32 r] w fun e w' => e = .returned (.int .i64 (-1)) ∧ Below w.heap.size w w' := by
  by_cases h3 : r = 65533
  · subst h3
    exact rune_nl_bad Tryd.lays152 w
  · exact rune_nl_ok w (fun _ => none) (fun _ _ h => by cases h) r h1 h2 h3
theorem indexAny_spec (s : ByteArray) (hs : s.size < 4294967281) (w : World) :
    Calls Tryd.prog 51 #[.string s, .string nlS] w fun e w' => e = .returned (.int .i64 (Lib.indexAny (bl s) [10, 13])) ∧ Below w.heap.size w w' := by
  by_cases h8 : s.size ≤ 8
  · exact indexAny_far Tryd.lays153 s nlS w (by decide) h8 (by decide) (fun r w h1 h2 => rune_nl r w h1 h2)
  · have h := zero_of_info (P := Tryd.prog) (t := Tryd.lays153_ren.t 116) (v := .agg (Array.replicate 256 (.bool false))) (n := 256) (by kernel_rfl)
    refine (Any.strings_IndexAny_long Tryd.lays153 h.1 h.2 s nlS w (by decide) (by omega) hs (by decide) ?_).mono fun e w' ⟨h1, h2⟩ => ⟨h1, ?_⟩
    · intro j b hb
      have hm : b ∈ nlS.data.toList := List.mem_of_getElem? hb
      have ha : ∀ x ∈ nlS.data.toList, x.toNat < 128 := by decide
      exact ha b hm
    · rw [h2]
      exact ((Below.refl _ _).alloc (Nat.le_refl _) _).alloc (by simp) _
theorem containsAny_spec (s : ByteArray) (hs : s.size < 4294967281) (w : World) (μ : Mem) (hμ : MOk μ w) :
    Calls Tryd.prog 35 #[.string s, .string nlS] w fun e w' => e = .returned (.bool ((bl s).any (on8 endI))) ∧ Below w.heap.size w w' := by
  refine call_intro Tryd.func35 rfl Tryd.ntmps35 (by simp) hμ ?_
  repeat' (first | (with_reducible (first | apply gc_seq | apply gc_region | apply g_nil | apply gq_then | apply gc_block | apply gc_exit | apply gc_ret | apply gc_skip | apply gq_then_exit | apply gq_then_ret | apply gq_block_same | apply gq_block_normal | apply gq_block_ret)) | ((with_reducible apply g_p); exact rfl) | ((with_reducible apply g_enter_s); exact rfl; exact rfl; exact rfl; (first | ((with_reducible apply e_call2); kernel_rfl; exact rfl; exact rfl)); exact fun w μc hw hse => indexAny_spec s hs w) | ((with_reducible apply gc_if); exact rfl) | (with_reducible (first | apply pif_t | apply pif_f | apply pif_not)) | ((with_reducible apply pif_decT); (first | omega | with_reducible assumption | with_reducible rfl)) | ((with_reducible apply pif_decF); (first | omega | with_reducible assumption | with_reducible exact ne_self_f _)) | (((with_reducible apply pif_tt); exact rfl)) | (((with_reducible apply pif_ff); exact rfl)) | (with_reducible (first | refine pif_dec (fun hp => ?_) (fun hp => ?_) | refine pif_b (fun hp => ?_) (fun hp => ?_))) | ((with_reducible apply gq_block_other); exact rfl) | ((with_reducible apply g_if); exact rfl; (fail_if_success (with_reducible show NLit true)); (fail_if_success (with_reducible show NLit false)); exact nLit _))
  refine ret_s rfl rfl ?_
  rw [← any_end, ← indexAny_any]
end Go.Proofs.YtnodfbjbcmkkhaaDoor
