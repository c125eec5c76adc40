/- The reference's writer: written, digits, decimal: their contracts. -/
import Derived.Test.YtnodfbjbcmkkhaaDoorTw2
set_option maxRecDepth 20000
namespace Go.Vcg
open Go.RowKit
theorem wrap_u64 {x : Int} (h : 0 ≤ x ∧ x ≤ 18446744073709551615) : IntKind.wrap .u64 x = x := by
  simp only [IntKind.wrap]
  simp [IntKind.signed, IntKind.bits]
  omega
section
variable {P : Program} {μ : Mem} {l : Slots} {L : List Bk} {ds : Option Nat} {ty : TypeId} {pos : String} {af : Array Edge} {gd : Option (Nat × Bool)}
theorem v_add64 {p q : Operand} {t t2 : TypeId} {x y : Int} (hx0 : ev l p = some (.int .u64 x)) (hx1 : ev l q = some (.int .u64 y)) (hb : 0 ≤ x + y ∧ x + y ≤ 18446744073709551615) : Val P μ l L ⟨ds, .binOp .add t p q t2, ty, pos, af, gd⟩ (.int .u64 (x + y)) := by
  rw [show (Value.int .u64 (x + y)) = .int .u64 (IntKind.wrap .u64 (x + y)) by rw [wrap_u64 hb]]
  exact v_add hx0 hx1
theorem v_quo64 {p q : Operand} {t t2 : TypeId} {x y r : Int} (hx0 : ev l p = some (.int .u64 x)) (hx1 : ev l q = some (.int .u64 y)) (hy : y ≠ 0) (hr : x.tdiv y = r) (hb : 0 ≤ r ∧ r ≤ 18446744073709551615) : Val P μ l L ⟨ds, .binOp .quo t p q t2, ty, pos, af, gd⟩ (.int .u64 r) := by
  subst hr
  rw [show (Value.int .u64 (x.tdiv y)) = .int .u64 (IntKind.wrap .u64 (x.tdiv y)) by rw [wrap_u64 hb]]
  exact v_quo hx0 hx1 hy
theorem v_quo8 {p q : Operand} {t t2 : TypeId} {x y r : Int} (hx0 : ev l p = some (.int .u8 x)) (hx1 : ev l q = some (.int .u8 y)) (hy : y ≠ 0) (hr : x.tdiv y = r) (hb : 0 ≤ r ∧ r ≤ 255) : Val P μ l L ⟨ds, .binOp .quo t p q t2, ty, pos, af, gd⟩ (.int .u8 r) := by
  subst hr
  rw [show (Value.int .u8 (x.tdiv y)) = .int .u8 (IntKind.wrap .u8 (x.tdiv y)) by rw [wrap_u8 hb]]
  exact v_quo hx0 hx1 hy
theorem v_conv64 {p : Operand} {t u : TypeId} {k : IntKind} {x : Int} {de : TypeDesc} (hx0 : ev l p = some (.int k x)) (ht : P.underlying t = some de) (hu : P.underlying u = some (.int .u64)) (hb : 0 ≤ x ∧ x ≤ 18446744073709551615) : Val P μ l L ⟨ds, .convert t u p, ty, pos, af, gd⟩ (.int .u64 x) := by
  rw [show (Value.int .u64 x) = .int .u64 (IntKind.wrap .u64 x) by rw [wrap_u64 hb]]
  exact v_conv hx0 ht hu
theorem run_sindex8 {t : TypeId} {s : ByteArray} {k : Nat} (ht : P.underlying t = some .string) (hk : k < s.size) (w : World) : (Instr.index t (.string s) (.int .u8 (k : Int))).run P w = .ok (.int .u8 (bAt s k)) w := by
  have h1 : s[k]? = some s[k] := by simp [hk]
  have h2 : bAt s k = s[k].toNat := by
    unfold bAt
    have : s.data.toList[k]? = some s[k] := by
      rw [Array.getElem?_toList]
      exact Array.getElem?_eq_getElem hk
    rw [this]; rfl
  simp [Instr.index, asIntOf, run_underlying ht, h1, h2]
theorem v_sindex8 {p q : Operand} {t : TypeId} {s : ByteArray} {i : Int} (k : Nat) (ht : P.underlying t = some .string) (hx0 : ev l p = some (.string s)) (hx1 : ev l q = some (.int .u8 i)) (hi : i = (k : Int)) (hk : k < s.size) :
    Val P μ l L ⟨ds, .index t p q, ty, pos, af, gd⟩ (.int .u8 (bAt s k)) := fun a w hs => by
  have e0 := hs.eval hx0; have e1 := hs.eval hx1; generalize a.eval = ρ at e0 e1; subst hi; simp [execOp, e0, e1, run_sindex8 ht hk]
/-- string([]byte{c}) -/
theorem v_byte1 {p : Operand} {t u e : TypeId} {y : Blk} {b c0 : Nat} {x : Int} (c : UInt8) (i : Nat) (hx : ev l p = some (.slice (some ⟨b, 0, none⟩) 1 c0)) (hi : nthB L i = some (.inl y)) (hyb : y.b = b) (hl : lk y.cs 0 = some (.int .u8 x)) (hxc : x = c.toNat)
    (ht : P.underlying t = some (.slice e)) (he : P.underlying e = some (.int .u8)) (hu : P.underlying u = some .string) : Val P μ l L ⟨ds, .convert t u p, ty, pos, af, gd⟩ (.string ⟨#[c]⟩) := fun a w hs => by
  have e0 := hs.eval hx
  subst hyb hxc
  have hc : ∀ j (hj : j < [c].length), w.cell? ((⟨y.b, 0, none⟩ : Addr).add j) = some (.int .u8 ([c][j].toNat : Int)) := fun j hj => by
    have : j = 0 := by simpa using hj
    subst this
    exact hs.cell (nthB_mem hi) hl
  generalize a.eval = ρ at e0
  have hr : (convert t u (.slice (some ⟨y.b, 0, none⟩) 1 c0)).run P w = _ := run_convert_bytes_back w t u e ⟨y.b, 0, none⟩ c0 [c] ht he hu hc
  simp [execOp, e0, hr]
end
end Go.Vcg
namespace Go.Proofs.YtnodfbjbcmkkhaaDoor
open Go.RowKit Go.Vcg
open Go.Lib (byteCells)
theorem dec_len (n : Nat) (h : n ≤ 18446744073709551615) : (Lib.decDigits n).length ≤ 20 := by
  rw [Lib.decDigits_length]
  exact Lib.nDigits_le20 n (by omega)
theorem dig_toNat (n : Nat) (h : n < 10) : (UInt8.ofNat (48 + n)).toNat = 48 + n := by
  rw [UInt8.toNat_ofNat']; omega
theorem mk_bl (s : ByteArray) : (⟨(bl s).toArray⟩ : ByteArray) = s := bl_inj (by simp [bl])
/-- the reference's order of tests -/
def code1R (mk : List UInt8) (c : UInt8) : List UInt8 :=
  if mk.any (fun x => decide (x = c)) = true then [92, c]
  else if c = 10 then [92, 110]
  else if c = 9 then [92, 116]
  else if c = 13 then [92, 114]
  else if c = 0 then [92, 48]
  else if c.toNat < 32 ∨ 126 < c.toNat then [92, 120, hexTab.getD (c.toNat / 16) 0, hexTab.getD (c.toNat % 16) 0]
  else [c]
theorem all_bytes {p : UInt8 → Prop} (h : ∀ n : Fin 256, p (UInt8.ofNat n.val)) (c : UInt8) : p c := by
  have := h ⟨c.toNat, c.toNat_lt⟩
  simpa using this
theorem code1R_a (c : UInt8) : code1R [34, 92] c = code1 [34] c := all_bytes (p := fun c => code1R [34, 92] c = code1 [34] c) (by decide +kernel) c
theorem code1R_b (c : UInt8) : code1R [96, 36, 92] c = code1 [96, 36] c := all_bytes (p := fun c => code1R [96, 36, 92] c = code1 [96, 36] c) (by decide +kernel) c
attribute [local irreducible] G GC GQ GA GAop Calls IntKind.wrap Int.decLt Int.decLe
section
variable (w : World) (μ : Mem) (hμ : MOk μ w)
include hμ
theorem rdigits_spec (n : Nat) (hn : n ≤ 18446744073709551615) : Calls Tryd.prog 25 #[.int .u64 n] w fun e w' => e = .returned (.string ⟨(Lib.decDigits n).toArray⟩) ∧ Below w.heap.size w w' := by
  refine call_intro Tryd.func25 rfl Tryd.ntmps25 (by simp) hμ ?_
  have hl20 := dec_len n hn
  repeat' (first | (with_reducible (first | apply gc_seq | apply gc_region | apply g_nil | apply gq_then | apply gc_block | apply gc_exit | apply gc_ret | apply gc_skip | apply gq_then_exit | apply gq_then_ret | apply gq_block_same | apply gq_block_normal | apply gq_block_ret)) | ((with_reducible apply g_p); exact rfl) | ((with_reducible apply gc_if); exact rfl) | (with_reducible (first | apply pif_t | apply pif_f | apply pif_not)) | ((with_reducible apply pif_decT); (first | omega | with_reducible assumption | with_reducible rfl)) | ((with_reducible apply pif_decF); (first | omega | with_reducible assumption | with_reducible exact ne_self_f _)) | (((with_reducible apply pif_tt); exact rfl)) | (((with_reducible apply pif_ff); exact rfl)) | (with_reducible (first | refine pif_dec (fun hp => ?_) (fun hp => ?_) | refine pif_b (fun hp => ?_) (fun hp => ?_))) | ((with_reducible apply g_ar); exact rfl; omega) | ((with_reducible apply g_v); exact rfl; (first | ((with_reducible apply v_quo_i); exact rfl; exact rfl; (first | omega | with_reducible assumption); (first | omega | with_reducible assumption)) | ((with_reducible apply v_rem); exact rfl; exact rfl; (first | omega | with_reducible assumption)) | ((with_reducible apply v_conv_int); exact rfl; exact rfl; exact rfl; omega) | ((with_reducible apply arB_sound); exact rfl; omega))) | ((with_reducible apply g_bs); exact rfl; exact rfl; exact rfl; intro b) | ((with_reducible apply gq_block_other); exact rfl) | ((with_reducible apply g_if); exact rfl; (fail_if_success (with_reducible show NLit true)); (fail_if_success (with_reducible show NLit false)); exact nLit _))
  refine gc_loop (ι := Nat × ByteArray) (fun i => i.1 ≤ 18446744073709551615 ∧ Lib.decDigits n = Lib.decDigits i.1 ++ bl i.2) (fun i => i.1) (fun _ => μ) (fun i => [(0, .int .u64 i.1), (3, .string i.2), (2, .string ⟨#[]⟩)])
    (fun i => []) (n, ⟨#[]⟩) ⟨hn, by simp [bl]⟩ (fun a w hs => hs.sub (by repeat first | exact subS_nil | refine subS_cons rfl ?_) (by repeat first | exact List.Sublist.refl _ | exact List.nil_sublist _ | refine List.Sublist.cons _ ?_)) ?_
  rintro ⟨u, s⟩ ⟨hu, hJ⟩
  dsimp only at hu hJ ⊢
  have hsz : s.size ≤ 20 := by
    have : (Lib.decDigits n).length = (Lib.decDigits u).length + s.size := by rw [hJ, List.length_append, bl_len]
    omega
  have h1s : ∀ c : UInt8, ByteArray.size ⟨#[c]⟩ = 1 := fun _ => rfl
  by_cases h10 : u < 10
  · have hF : (⟨(Lib.decDigits n).toArray⟩ : ByteArray) = ⟨#[UInt8.ofNat (48 + u)]⟩ ++ s := by
      rw [hJ, Lib.decDigits, dif_pos h10]
      apply bl_inj
      rw [bl_app]
    rw [hF]
    have hd := dig_toNat u h10
    have hu1 := h1s (UInt8.ofNat (48 + u))
    repeat' (first | (with_reducible (first | apply gc_seq | apply gc_region | apply g_nil | apply gq_then | apply gc_block | apply gc_exit | apply gc_ret | apply gc_skip | apply gq_then_exit | apply gq_then_ret | apply gq_block_same | apply gq_block_normal | apply gq_block_ret)) | ((with_reducible apply g_p); exact rfl) | ((with_reducible apply gc_if); exact rfl) | (with_reducible (first | apply pif_t | apply pif_f | apply pif_not)) | ((with_reducible apply pif_decT); (first | omega | with_reducible assumption | with_reducible rfl)) | ((with_reducible apply pif_decF); (first | omega | with_reducible assumption | with_reducible exact ne_self_f _)) | (((with_reducible apply pif_tt); exact rfl)) | (((with_reducible apply pif_ff); exact rfl)) | (with_reducible (first | refine pif_dec (fun hp => ?_) (fun hp => ?_) | refine pif_b (fun hp => ?_) (fun hp => ?_))) | ((with_reducible apply g_ar); exact rfl; omega) | ((with_reducible apply g_v); exact rfl; (first | ((with_reducible apply v_add64); exact rfl; exact rfl; omega) | ((with_reducible apply v_conv_u8); exact rfl; exact rfl; exact rfl; omega) | ((with_reducible apply v_byte1 (UInt8.ofNat (48 + u)) 0); exact rfl; exact rfl; exact rfl; exact rfl; omega; exact rfl; exact rfl; exact rfl) | ((with_reducible apply v_sadd); exact rfl; exact rfl; omega) | ((with_reducible apply v_quo_i); exact rfl; exact rfl; (first | omega | with_reducible assumption); (first | omega | with_reducible assumption)) | ((with_reducible apply v_rem); exact rfl; exact rfl; (first | omega | with_reducible assumption)) | ((with_reducible apply v_conv_int); exact rfl; exact rfl; exact rfl; omega) | ((with_reducible apply arB_sound); exact rfl; omega))) | ((with_reducible apply g_bs); exact rfl; exact rfl; exact rfl; intro b) | ((with_reducible apply gq_block_other); exact rfl) | ((with_reducible apply g_if); exact rfl; (fail_if_success (with_reducible show NLit true)); (fail_if_success (with_reducible show NLit false)); exact nLit _))
    exact ret_v1 rfl (by first | exact rv_tmp rfl | exact (rv_agg 0 rfl rfl rfl rfl rfl (by repeat first | exact lc_nil | refine lc_cons rfl ?_)) | exact (rv_agg 1 rfl rfl rfl rfl rfl (by repeat first | exact lc_nil | refine lc_cons rfl ?_)) | exact (rv_agg 2 rfl rfl rfl rfl rfl (by repeat first | exact lc_nil | refine lc_cons rfl ?_)) | exact (rv_agg 3 rfl rfl rfl rfl rfl (by repeat first | exact lc_nil | refine lc_cons rfl ?_))) rfl
  · have hd := dig_toNat (u % 10) (by omega)
    have hu1 := h1s (UInt8.ofNat (48 + u % 10))
    have e1 : (u : Int).tmod 10 = ((u % 10 : Nat) : Int) := by rw [Int.tmod_eq_emod_of_nonneg (by omega)]; omega
    have e2 : (u : Int).tdiv 10 = ((u / 10 : Nat) : Int) := by rw [Int.tdiv_eq_ediv_of_nonneg (by omega)]; omega
    repeat' (first | (with_reducible (first | apply gc_seq | apply gc_region | apply g_nil | apply gq_then | apply gc_block | apply gc_exit | apply gc_ret | apply gc_skip | apply gq_then_exit | apply gq_then_ret | apply gq_block_same | apply gq_block_normal | apply gq_block_ret)) | ((with_reducible apply g_p); exact rfl) | ((with_reducible apply gc_if); exact rfl) | (with_reducible (first | apply pif_t | apply pif_f | apply pif_not)) | ((with_reducible apply pif_decT); (first | omega | with_reducible assumption | with_reducible rfl)) | ((with_reducible apply pif_decF); (first | omega | with_reducible assumption | with_reducible exact ne_self_f _)) | (((with_reducible apply pif_tt); exact rfl)) | (((with_reducible apply pif_ff); exact rfl)) | (with_reducible (first | refine pif_dec (fun hp => ?_) (fun hp => ?_) | refine pif_b (fun hp => ?_) (fun hp => ?_))) | ((with_reducible apply g_ar); exact rfl; omega) | ((with_reducible apply g_v); exact rfl; (first | ((with_reducible apply v_rem_at); exact rfl; exact rfl; decide; exact e1) | ((with_reducible apply v_quo64); exact rfl; exact rfl; decide; exact e2; omega) | ((with_reducible apply v_add64); exact rfl; exact rfl; omega) | ((with_reducible apply v_conv_u8); exact rfl; exact rfl; exact rfl; omega) | ((with_reducible apply v_byte1 (UInt8.ofNat (48 + u % 10)) 0); exact rfl; exact rfl; exact rfl; exact rfl; omega; exact rfl; exact rfl; exact rfl) | ((with_reducible apply v_sadd); exact rfl; exact rfl; omega) | ((with_reducible apply v_quo_i); exact rfl; exact rfl; (first | omega | with_reducible assumption); (first | omega | with_reducible assumption)) | ((with_reducible apply v_rem); exact rfl; exact rfl; (first | omega | with_reducible assumption)) | ((with_reducible apply v_conv_int); exact rfl; exact rfl; exact rfl; omega) | ((with_reducible apply arB_sound); exact rfl; omega))) | ((with_reducible apply g_bs); exact rfl; exact rfl; exact rfl; intro b) | ((with_reducible apply gq_block_other); exact rfl) | ((with_reducible apply g_if); exact rfl; (fail_if_success (with_reducible show NLit true)); (fail_if_success (with_reducible show NLit false)); exact nLit _))
    refine gq_back (u / 10, ⟨#[UInt8.ofNat (48 + u % 10)]⟩ ++ s) ⟨by dsimp only; omega, ?_⟩ (by dsimp only; omega) rfl (by repeat first | exact subS_nil | refine subS_cons rfl ?_) (by repeat first | exact List.Sublist.refl _ | exact List.nil_sublist _ | refine List.Sublist.cons _ ?_)
    dsimp only
    rw [hJ, Lib.decDigits, dif_neg h10, bl_app]
    simp [bl]
theorem rdecimal_spec (n : Int) (hn : -9223372036854775808 ≤ n ∧ n ≤ 9223372036854775807) : Calls Tryd.prog 17 #[.int .i64 n] w fun e w' => e = .returned (.string ⟨(Lib.itoa n).toArray⟩) ∧ Below w.heap.size w w' := by
  refine call_intro Tryd.func17 rfl Tryd.ntmps17 (by simp) hμ ?_
  by_cases h0 : n < 0
  · have hF : (⟨(Lib.itoa n).toArray⟩ : ByteArray) = ⟨#[45]⟩ ++ ⟨(Lib.decDigits n.natAbs).toArray⟩ := by
      unfold Lib.itoa
      rw [if_pos h0]
      apply bl_inj
      rw [bl_app]
      simp [bl]
    rw [hF]
    have hd : -(n + 1) + 1 = ((n.natAbs : Nat) : Int) := by omega
    have hl := dec_len n.natAbs (by omega)
    have hsz : ByteArray.size ⟨#[45]⟩ = 1 := rfl
    have hs2 := size_mk (Lib.decDigits n.natAbs)
    have hdig : ∀ (w : World) (μ : Mem), MOk μ w → Calls Tryd.prog 25 #[.int .u64 (-(n + 1) + 1)] w fun e w' => e = .returned (.string ⟨(Lib.decDigits n.natAbs).toArray⟩) ∧ Below w.heap.size w w' := fun w μ hμ => by
      rw [hd]
      exact rdigits_spec w μ hμ n.natAbs (by omega)
    repeat' (first | (with_reducible (first | apply gc_seq | apply gc_region | apply g_nil | apply gq_then | apply gc_block | apply gc_exit | apply gc_ret | apply gc_skip | apply gq_then_exit | apply gq_then_ret | apply gq_block_same | apply gq_block_normal | apply gq_block_ret)) | ((with_reducible apply g_p); exact rfl) | ((with_reducible show G _ _ _ _ (Oper.mk _ (Op.call (Call.mk (Callee.value (Operand.func 25)) _ _)) _ _ _ _ :: _) _ _ _); (with_reducible apply g_enter_s); exact rfl; exact rfl; exact rfl; (first | ((with_reducible apply e_call1); kernel_rfl; exact rfl)); exact fun w μc hw hse => hdig w μc hw) | ((with_reducible apply gc_if); exact rfl) | (with_reducible (first | apply pif_t | apply pif_f | apply pif_not)) | ((with_reducible apply pif_decT); (first | omega | with_reducible assumption | with_reducible rfl)) | ((with_reducible apply pif_decF); (first | omega | with_reducible assumption | with_reducible exact ne_self_f _)) | (((with_reducible apply pif_tt); exact rfl)) | (((with_reducible apply pif_ff); exact rfl)) | (with_reducible (first | refine pif_dec (fun hp => ?_) (fun hp => ?_) | refine pif_b (fun hp => ?_) (fun hp => ?_))) | ((with_reducible apply g_ar); exact rfl; omega) | ((with_reducible apply g_v); exact rfl; (first | ((with_reducible apply v_neg_i); exact rfl; omega) | ((with_reducible apply v_conv64); exact rfl; exact rfl; exact rfl; omega) | ((with_reducible apply v_add64); exact rfl; exact rfl; omega) | ((with_reducible apply v_sadd); exact rfl; exact rfl; omega) | ((with_reducible apply v_neg_i); exact rfl; omega) | ((with_reducible apply v_conv_int); exact rfl; exact rfl; exact rfl; omega) | ((with_reducible apply arB_sound); exact rfl; omega))) | ((with_reducible apply gq_block_other); exact rfl) | ((with_reducible apply g_if); exact rfl; (fail_if_success (with_reducible show NLit true)); (fail_if_success (with_reducible show NLit false)); exact nLit _))
    exact ret_v1 rfl (by first | exact rv_tmp rfl | exact (rv_agg 0 rfl rfl rfl rfl rfl (by repeat first | exact lc_nil | refine lc_cons rfl ?_)) | exact (rv_agg 1 rfl rfl rfl rfl rfl (by repeat first | exact lc_nil | refine lc_cons rfl ?_)) | exact (rv_agg 2 rfl rfl rfl rfl rfl (by repeat first | exact lc_nil | refine lc_cons rfl ?_)) | exact (rv_agg 3 rfl rfl rfl rfl rfl (by repeat first | exact lc_nil | refine lc_cons rfl ?_))) rfl
  · have hF : Lib.itoa n = Lib.decDigits n.toNat := by unfold Lib.itoa; rw [if_neg h0]
    rw [hF]
    have hdig : ∀ (w : World) (μ : Mem), MOk μ w → Calls Tryd.prog 25 #[.int .u64 n] w fun e w' => e = .returned (.string ⟨(Lib.decDigits n.toNat).toArray⟩) ∧ Below w.heap.size w w' := fun w μ hμ => by
      have := rdigits_spec w μ hμ n.toNat (by omega)
      rwa [show ((n.toNat : Nat) : Int) = n by omega] at this
    repeat' (first | (with_reducible (first | apply gc_seq | apply gc_region | apply g_nil | apply gq_then | apply gc_block | apply gc_exit | apply gc_ret | apply gc_skip | apply gq_then_exit | apply gq_then_ret | apply gq_block_same | apply gq_block_normal | apply gq_block_ret)) | ((with_reducible apply g_p); exact rfl) | ((with_reducible show G _ _ _ _ (Oper.mk _ (Op.call (Call.mk (Callee.value (Operand.func 25)) _ _)) _ _ _ _ :: _) _ _ _); (with_reducible apply g_enter_s); exact rfl; exact rfl; exact rfl; (first | ((with_reducible apply e_call1); kernel_rfl; exact rfl)); exact fun w μc hw hse => hdig w μc hw) | ((with_reducible apply gc_if); exact rfl) | (with_reducible (first | apply pif_t | apply pif_f | apply pif_not)) | ((with_reducible apply pif_decT); (first | omega | with_reducible assumption | with_reducible rfl)) | ((with_reducible apply pif_decF); (first | omega | with_reducible assumption | with_reducible exact ne_self_f _)) | (((with_reducible apply pif_tt); exact rfl)) | (((with_reducible apply pif_ff); exact rfl)) | (with_reducible (first | refine pif_dec (fun hp => ?_) (fun hp => ?_) | refine pif_b (fun hp => ?_) (fun hp => ?_))) | ((with_reducible apply g_ar); exact rfl; omega) | ((with_reducible apply g_v); exact rfl; (first | ((with_reducible apply v_conv64); exact rfl; exact rfl; exact rfl; omega) | ((with_reducible apply v_neg_i); exact rfl; omega) | ((with_reducible apply v_conv_int); exact rfl; exact rfl; exact rfl; omega) | ((with_reducible apply arB_sound); exact rfl; omega))) | ((with_reducible apply gq_block_other); exact rfl) | ((with_reducible apply g_if); exact rfl; (fail_if_success (with_reducible show NLit true)); (fail_if_success (with_reducible show NLit false)); exact nLit _))
    exact ret_v1 rfl (by first | exact rv_tmp rfl | exact (rv_agg 0 rfl rfl rfl rfl rfl (by repeat first | exact lc_nil | refine lc_cons rfl ?_)) | exact (rv_agg 1 rfl rfl rfl rfl rfl (by repeat first | exact lc_nil | refine lc_cons rfl ?_)) | exact (rv_agg 2 rfl rfl rfl rfl rfl (by repeat first | exact lc_nil | refine lc_cons rfl ?_)) | exact (rv_agg 3 rfl rfl rfl rfl rfl (by repeat first | exact lc_nil | refine lc_cons rfl ?_))) rfl
end
end Go.Proofs.YtnodfbjbcmkkhaaDoor
