/- The lexer of package token: name, digits, number, escape: their contracts. -/
import Derived.Test.YtnodfbjbcmkkhaaDoorTk2
import Derived.Test.YtnodfbjbcmkkhaaDoorVw
set_option maxRecDepth 20000
namespace Go.Vcg
open Go.RowKit
section
variable {P : Program} {μ : Mem} {l : Slots} {L : List Bk}
variable {ty : TypeId} {pos : String} {af : Array Edge} {gd : Option (Nat × Bool)} {ds : Option Nat}
abbrev byteCells (bs : List UInt8) : List Value := bs.map fun b => .int .u8 (b.toNat : Int)
/-- a row of bytes, as a string -/
theorem v_bytes_own {p : Operand} {t u e e' : TypeId} {v : Value} {n : Nat} {xs : List Value} (bs : List UInt8) (i : Nat) (hx : ev l p = some v) (hi : nthB L i = some (.inr ⟨v, e', 1, n, xs⟩))
    (ht : P.underlying t = some (.slice e)) (he : P.underlying e = some (.int .u8)) (hu : P.underlying u = some .string) (hn : bs.length = n) (hb : xs = byteCells bs) :
    Val P μ l L ⟨ds, .convert t u p, ty, pos, af, gd⟩ (.string ⟨bs.toArray⟩) := fun a w hs => by
  have e0 := hs.eval hx
  have hown : w.ownsRow 0 e' 1 v n xs := hs.own _ (nthB_mem hi)
  subst hn hb
  rcases hown.2 with ⟨hv, hz⟩ | ⟨g, cap, cur, hv, _⟩
  · have hbs : bs = [] := by
      have := hown.1
      first | exact List.length_eq_zero_iff.1 hz | exact List.length_eq_zero_iff.1 hz.1
    subst hbs
    subst hv
    generalize a.eval = ρ at e0
    simp [execOp, e0, convert, run_underlying ht, run_underlying hu, run_underlying he, Conv.bytesToString]
    rfl
  · subst hv
    have hc : ∀ j (hj : j < bs.length), w.cell? ((⟨g, 0, none⟩ : Addr).add j) = some (.int .u8 (bs[j].toNat : Int)) := fun j hj => by
      rw [add_lit, Nat.zero_add]
      exact hs.rowCell (nthB_mem hi) (by simp [hj])
    generalize a.eval = ρ at e0
    simp [execOp, e0, run_convert_bytes_back w t u e ⟨g, 0, none⟩ cap bs ht he hu hc]
end
end Go.Vcg
namespace Go.Proofs.YtnodfbjbcmkkhaaDoor
open Go.RowKit Go.Vcg
structure Tok where
  k : Int
  at' : Int
  to : Int
  n : Int
  s : ByteArray
  line : Bool
  op : Bool
abbrev encTok (t : Tok) : List Value := [.int .i64 t.k, .int .i64 t.at', .int .i64 t.to, .int .i64 t.n, .string t.s, .bool t.line, .bool t.op]
def ofL (l : List UInt8) : ByteArray := ⟨l.toArray⟩
theorem bl_ofL (l : List UInt8) : bl (ofL l) = l := by simp [bl, ofL]
theorem seg_ofL (s : ByteArray) (k m : Nat) : s.extract k (k + m) = ofL (((bl s).drop k).take m) := bl_inj (by rw [bl_seg, bl_ofL, Nat.add_sub_cancel_left])
def zeroTok : Tok := ⟨0, 0, 0, 0, ⟨#[]⟩, false, false⟩
def tokT (k : Nat) (t : T1) : Tok := ⟨t.k, k, ((k + t.len : Nat) : Int), t.n, ofL t.s, false, t.op⟩
def tokR (k : Nat) (r : Except Int T1) : Tok := match r with
  | .ok t => tokT k t
  | .error _ => zeroTok
def errR {α : Type} (r : Except Int α) : Int := match r with
  | .ok _ => 0
  | .error e => e
abbrev tokV (t : Tok) : Value := .agg (encTok t).toArray
theorem wide_sizes (x : ByteArray) : (⟨#[32]⟩ ++ x : ByteArray).size = x.size + 1 := by
  rw [ByteArray.size_append]
  show 1 + x.size = _
  omega
theorem bl_wide (x : ByteArray) : bl ((⟨#[32]⟩ ++ x : ByteArray) ++ ⟨#[32]⟩) = [32] ++ bl x ++ [32] := by
  simp [bl, ByteArray.data_append]
theorem contains_wide (W x : ByteArray) (hW : W.size < 4294967281) {tab : List UInt8} (hw : bl W = tab) {c : Bool} (h : Lib.contains tab ([32] ++ bl x ++ [32]) = c) (w : World) (μ : Mem) (hμ : MOk μ w) (hM : MaxOk μ) :
    Calls Tryd.prog 55 #[.string W, .string ((⟨#[32]⟩ ++ x : ByteArray) ++ ⟨#[32]⟩)] w fun e w' => e = .returned (.bool c) ∧ Below w.heap.size w w' := by
  have := contains_spec W ((⟨#[32]⟩ ++ x : ByteArray) ++ ⟨#[32]⟩) hW w μ hμ hM
  rwa [bl_wide, hw, h] at this
attribute [local irreducible] G GC GQ GA GAop Calls IntKind.wrap Int.decLt Int.decLe
theorem name_spec (s : ByteArray) (hs : s.size ≤ 65536) (k : Nat) (hk : k ≤ s.size) (w : World) (μ : Mem) (hμ : MOk μ w) (hM : MaxOk μ) :
    Calls Tryd.prog 40 #[.string s, .int .i64 k] w fun e w' => e = .returned (tokV (tokT k ⟨if Lib.contains wordsB ([32] ++ ((bl s).drop k).take (headN idI ((bl s).drop k)) ++ [32]) then 2 else 1, headN idI ((bl s).drop k), 0, ((bl s).drop k).take (headN idI ((bl s).drop k)), false⟩)) ∧ Below w.heap.size w w' := by
  refine call_intro Tryd.func40 rfl Tryd.ntmps40 (by simp) hμ ?_
  have hp1 := past_spec 54 idI (by kernel_rfl) name1_ok s hs k hk
  generalize hm : headN idI ((bl s).drop k) = m at hp1
  have hml : m ≤ s.size - k := by
    have := headN_le idI ((bl s).drop k)
    rw [hm, List.length_drop, bl_len] at this
    exact this
  have hx := seg_ofL s k m
  have hxs : (s.extract k (k + m)).size ≤ 65536 := by rw [ByteArray.size_extract]; omega
  have h32 : (⟨#[32]⟩ : ByteArray).size = 1 := rfl
  have hw := wide_sizes (s.extract k (k + m))
  have hbx : bl (s.extract k (k + m)) = ((bl s).drop k).take m := by rw [hx, bl_ofL]
  cases hc : Lib.contains wordsB ([32] ++ ((bl s).drop k).take m ++ [32])
  all_goals
    have he : ∀ q, tokT k ⟨q, m, 0, ((bl s).drop k).take m, false⟩ = ⟨q, k, ((k + m : Nat) : Int), 0, s.extract k (k + m), false, false⟩ := fun q => by rw [hx]; rfl
    rw [he]
    repeat' (first | (with_reducible (first | apply gc_seq | apply gc_region | apply g_nil | apply gq_then | apply gc_block | apply gc_exit | apply gc_ret | apply gc_skip | apply gq_then_exit | apply gq_then_ret | apply gq_block_same | apply gq_block_normal | apply gq_block_ret)) | ((with_reducible apply g_p); exact rfl) | ((with_reducible show G _ _ _ _ (Oper.mk _ (Op.call (Call.mk (Callee.value (Operand.func 32)) _ _)) _ _ _ _ :: _) _ _ _); (with_reducible apply g_enter_s); exact rfl; exact rfl; exact rfl; (first | ((with_reducible apply e_call2); kernel_rfl; exact rfl; exact rfl) | ((with_reducible apply e_call3); kernel_rfl; exact rfl; exact rfl; exact rfl)); exact fun w μc hw hse => hp1 w μc hw) | ((with_reducible show G _ _ _ _ (Oper.mk _ (Op.call (Call.mk (Callee.value (Operand.func 55)) _ _)) _ _ _ _ :: _) _ _ _); (with_reducible apply g_enter_s); exact rfl; exact rfl; exact rfl; (first | ((with_reducible apply e_call2); kernel_rfl; exact rfl; exact rfl) | ((with_reducible apply e_call3); kernel_rfl; exact rfl; exact rfl; exact rfl)); exact fun w μc hw' hse => contains_wide _ _ (by decide +kernel) (tab := wordsB) (by kernel_rfl) (by rw [hbx, hc]) w μc hw' (hM.mono hse.le)) | ((with_reducible apply gc_if); exact rfl) | (with_reducible (first | apply pif_t | apply pif_f | apply pif_not)) | ((with_reducible apply pif_decT); (first | omega | with_reducible assumption | with_reducible rfl)) | ((with_reducible apply pif_decF); (first | omega | with_reducible assumption | with_reducible exact ne_self_f _)) | (((with_reducible apply pif_tt); exact rfl)) | (((with_reducible apply pif_ff); exact rfl)) | (with_reducible (first | refine pif_dec (fun hp => ?_) (fun hp => ?_) | refine pif_b (fun hp => ?_) (fun hp => ?_))) | ((with_reducible apply g_ar); exact rfl; omega) | ((with_reducible apply g_ld); exact rfl; exact rfl; (repeat first | with_reducible exact inb_hd | with_reducible apply inb_tl); exact rfl) | ((with_reducible apply g_v); exact rfl; (first | ((with_reducible apply v_str_both k (k + m)); exact rfl; exact rfl; exact rfl; exact rfl; exact rfl; exact rfl; omega; omega) | ((with_reducible apply v_sadd); exact rfl; exact rfl; omega) | ((with_reducible apply v_field_n); exact rfl; exact rfl) | ((with_reducible apply arB_sound); exact rfl; omega) | ((with_reducible apply v_slice_arr); exact rfl; exact rfl; exact rfl))) | ((with_reducible apply g_nw); exact rfl; exact rfl; exact rfl; intro b) | ((with_reducible apply g_st); exact rfl; exact rfl; (repeat first | with_reducible exact ones_nil | ((with_reducible apply ones_cons); (first | exact rfl | assumption))); (repeat first | with_reducible apply upb_hd | with_reducible apply upb_tl); exact rfl; (repeat first | with_reducible exact pc_nil | with_reducible apply pc_cons)) | ((with_reducible apply gq_block_other); exact rfl) | ((with_reducible apply g_if); exact rfl; (fail_if_success (with_reducible show NLit true)); (fail_if_success (with_reducible show NLit false)); exact nLit _))
    exact ret_v1 rfl (rv_agg 1 rfl rfl rfl rfl rfl (by repeat first | exact lc_nil | refine lc_cons rfl ?_)) rfl
def addD (m : Nat) (x : Int × Nat × Bool) : Int × Nat × Bool := (x.1, m + x.2.1, x.2.2)
theorem addD_addD (a b : Nat) (x : Int × Nat × Bool) : addD a (addD b x) = addD (a + b) x := by simp [addD, Nat.add_assoc]
theorem digitsL_cons (base : Int) (b : UInt8) (r : List UInt8) (n : Int) (ok : Bool) (h : ¬ (hexI b.toNat < 0 ∨ hexI b.toNat ≥ base)) :
    digitsL base (b :: r) n ok = addD 1 (if n * base + hexI b.toNat > maxIntI then digitsL base r 0 false else digitsL base r (n * base + hexI b.toNat) ok) := by
  rw [digitsL, if_neg h]
  split <;> simp [addD, Nat.add_comm]
theorem digits_spec (s : ByteArray) (hs : s.size ≤ 65536) (k : Nat) (hk : k ≤ s.size) (base : Int) (hb : base = 10 ∨ base = 16) (w : World) (μ : Mem) (hμ : MOk μ w) :
    Calls Tryd.prog 56 #[.string s, .int .i64 k, .int .i64 base] w fun e w' => e = .returned (.tuple #[.int .i64 (digitsL base ((bl s).drop k) 0 true).1, .int .i64 ((k + (digitsL base ((bl s).drop k) 0 true).2.1 : Nat) : Int), .bool (digitsL base ((bl s).drop k) 0 true).2.2]) ∧ Below w.heap.size w w' := by
  refine call_intro Tryd.func56 rfl Tryd.ntmps56 (by simp) hμ ?_
  repeat' (first | (with_reducible (first | apply gc_seq | apply gc_region | apply g_nil | apply gq_then | apply gc_block | apply gc_exit | apply gc_ret | apply gc_skip | apply gq_then_exit | apply gq_then_ret | apply gq_block_same | apply gq_block_normal | apply gq_block_ret)) | ((with_reducible apply g_p); exact rfl) | ((with_reducible apply gc_if); exact rfl) | (with_reducible (first | apply pif_t | apply pif_f | apply pif_not)) | ((with_reducible apply pif_decT); (first | omega | with_reducible assumption | with_reducible rfl)) | ((with_reducible apply pif_decF); (first | omega | with_reducible assumption | with_reducible exact ne_self_f _)) | (((with_reducible apply pif_tt); exact rfl)) | (((with_reducible apply pif_ff); exact rfl)) | (with_reducible (first | refine pif_dec (fun hp => ?_) (fun hp => ?_) | refine pif_b (fun hp => ?_) (fun hp => ?_))) | ((with_reducible apply g_ar); exact rfl; omega) | ((with_reducible apply g_v); exact rfl; (first | ((with_reducible apply v_sindex_n); exact rfl; exact rfl; exact rfl; omega) | ((with_reducible apply arB_sound); exact rfl; omega) | ((with_reducible apply v_len_row 0); exact rfl; exact rfl; exact rfl) | ((with_reducible apply v_len_row 1); exact rfl; exact rfl; exact rfl) | ((with_reducible apply v_len_row 2); exact rfl; exact rfl; exact rfl) | ((with_reducible apply v_len_row 3); exact rfl; exact rfl; exact rfl))) | ((with_reducible apply gq_block_other); exact rfl) | ((with_reducible apply g_if); exact rfl; (fail_if_success (with_reducible show NLit true)); (fail_if_success (with_reducible show NLit false)); exact nLit _))
  refine gc_loop (ι := Nat × Int × Bool) (fun i => k ≤ i.1 ∧ i.1 ≤ s.size ∧ 0 ≤ i.2.1 ∧ i.2.1 ≤ 9007199254740992 ∧ digitsL base ((bl s).drop k) 0 true = addD (i.1 - k) (digitsL base ((bl s).drop i.1) i.2.1 i.2.2)) (fun i => s.size - i.1) (fun _ => μ) (fun i => [(7, .int .i64 i.1), (0, .string s), (2, .int .i64 base), (6, .int .i64 i.2.1), (8, .bool i.2.2)]) (fun _ => []) (k, 0, true) ⟨by simp, hk, by simp, by simp, by simp [addD]⟩ (fun a w hs => hs.sub (by repeat first | exact subS_nil | refine subS_cons rfl ?_) (by repeat first | exact List.Sublist.refl _ | exact List.nil_sublist _ | refine List.Sublist.cons _ ?_)) ?_
  rintro ⟨i, n, ok⟩ ⟨hki, hi, hn0, hn1, hJ⟩
  dsimp only at hki hi hn0 hn1 hJ ⊢
  have hfin : ∀ (v : Value), digitsL base ((bl s).drop i) n ok = (n, 0, ok) → v = .tuple #[.int .i64 n, .int .i64 i, .bool ok] → v = .tuple #[.int .i64 (digitsL base ((bl s).drop k) 0 true).1, .int .i64 ((k + (digitsL base ((bl s).drop k) 0 true).2.1 : Nat) : Int), .bool (digitsL base ((bl s).drop k) 0 true).2.2] := fun v h hv => by
    rw [hv, hJ, h]
    simp only [addD, Nat.add_zero]
    rw [show k + (i - k) = i by omega]
  by_cases hlt : i < s.size
  · obtain ⟨b, hb1, hb2⟩ := bl_at hlt
    have h1 := bAt_lo s i
    have h2 := bAt_hi s i
    have h3 := hexI_lo (bAt s i)
    have h4 := hexI_hi (bAt s i)
    rw [drop_cons hb1] at hJ hfin
    by_cases hst : hexI (bAt s i) < 0 ∨ hexI (bAt s i) ≥ base
    · have hd : digitsL base (b :: (bl s).drop (i + 1)) n ok = (n, 0, ok) := by rw [digitsL, if_pos (by rw [← hb2]; exact hst)]
      repeat' (first | (with_reducible (first | apply gc_seq | apply gc_region | apply g_nil | apply gq_then | apply gc_block | apply gc_exit | apply gc_ret | apply gc_skip | apply gq_then_exit | apply gq_then_ret | apply gq_block_same | apply gq_block_normal | apply gq_block_ret)) | ((with_reducible apply g_p); exact rfl) | ((with_reducible apply g_enter_s); exact rfl; exact rfl; exact rfl; (first | ((with_reducible apply e_call1); kernel_rfl; exact rfl)); exact fun w μc hw hse => hex_spec _ h1 h2 w μc hw) | ((with_reducible apply gc_if); exact rfl) | (with_reducible (first | apply pif_t | apply pif_f | apply pif_not)) | ((with_reducible apply pif_decT); (first | omega | with_reducible assumption | with_reducible rfl)) | ((with_reducible apply pif_decF); (first | omega | with_reducible assumption | with_reducible exact ne_self_f _)) | (((with_reducible apply pif_tt); exact rfl)) | (((with_reducible apply pif_ff); exact rfl)) | (with_reducible (first | refine pif_dec (fun hp => ?_) (fun hp => ?_) | refine pif_b (fun hp => ?_) (fun hp => ?_))) | ((with_reducible apply g_ar); exact rfl; omega) | ((with_reducible apply g_v); exact rfl; (first | ((with_reducible apply v_sindex_n); exact rfl; exact rfl; exact rfl; omega) | ((with_reducible apply arB_sound); exact rfl; omega) | ((with_reducible apply v_len_row 0); exact rfl; exact rfl; exact rfl) | ((with_reducible apply v_len_row 1); exact rfl; exact rfl; exact rfl) | ((with_reducible apply v_len_row 2); exact rfl; exact rfl; exact rfl) | ((with_reducible apply v_len_row 3); exact rfl; exact rfl; exact rfl))) | ((with_reducible apply gq_block_other); exact rfl) | ((with_reducible apply g_if); exact rfl; (fail_if_success (with_reducible show NLit true)); (fail_if_success (with_reducible show NLit false)); exact nLit _))
      all_goals first | (exfalso; omega) | exact ret_vn rfl (by repeat first | exact rvs_nil | refine rvs_cons (by first | exact rv_tmp rfl | exact (rv_agg 0 rfl rfl rfl rfl rfl (by repeat first | exact lc_nil | refine lc_cons rfl ?_)) | exact (rv_agg 1 rfl rfl rfl rfl rfl (by repeat first | exact lc_nil | refine lc_cons rfl ?_)) | exact (rv_agg 2 rfl rfl rfl rfl rfl (by repeat first | exact lc_nil | refine lc_cons rfl ?_)) | exact (rv_agg 3 rfl rfl rfl rfl rfl (by repeat first | exact lc_nil | refine lc_cons rfl ?_))) ?_) rfl (hfin _ hd rfl)
    · rw [digitsL_cons base b _ n ok (by rw [← hb2]; exact hst), addD_addD, ← hb2] at hJ
      have hk2 : 0 ≤ n * base ∧ n * base ≤ 9223372036854775707 := by rcases hb with rfl | rfl <;> omega
      by_cases hbig : n * base + hexI (bAt s i) > maxIntI
      · rw [if_pos hbig] at hJ
        have hbig' : n * base + hexI (bAt s i) > 9007199254740992 := hbig
        repeat' (first | (with_reducible (first | apply gc_seq | apply gc_region | apply g_nil | apply gq_then | apply gc_block | apply gc_exit | apply gc_ret | apply gc_skip | apply gq_then_exit | apply gq_then_ret | apply gq_block_same | apply gq_block_normal | apply gq_block_ret)) | ((with_reducible apply g_p); exact rfl) | ((with_reducible apply g_enter_s); exact rfl; exact rfl; exact rfl; (first | ((with_reducible apply e_call1); kernel_rfl; exact rfl)); exact fun w μc hw hse => hex_spec _ h1 h2 w μc hw) | ((with_reducible apply gc_if); exact rfl) | (with_reducible (first | apply pif_t | apply pif_f | apply pif_not)) | ((with_reducible apply pif_decT); (first | omega | with_reducible assumption | with_reducible rfl)) | ((with_reducible apply pif_decF); (first | omega | with_reducible assumption | with_reducible exact ne_self_f _)) | (((with_reducible apply pif_tt); exact rfl)) | (((with_reducible apply pif_ff); exact rfl)) | (with_reducible (first | refine pif_dec (fun hp => ?_) (fun hp => ?_) | refine pif_b (fun hp => ?_) (fun hp => ?_))) | ((with_reducible apply g_ar); exact rfl; omega) | ((with_reducible apply g_v); exact rfl; (first | ((with_reducible apply v_sindex_n); exact rfl; exact rfl; exact rfl; omega) | ((with_reducible apply arB_sound); exact rfl; omega) | ((with_reducible apply v_len_row 0); exact rfl; exact rfl; exact rfl) | ((with_reducible apply v_len_row 1); exact rfl; exact rfl; exact rfl) | ((with_reducible apply v_len_row 2); exact rfl; exact rfl; exact rfl) | ((with_reducible apply v_len_row 3); exact rfl; exact rfl; exact rfl))) | ((with_reducible apply gq_block_other); exact rfl) | ((with_reducible apply g_if); exact rfl; (fail_if_success (with_reducible show NLit true)); (fail_if_success (with_reducible show NLit false)); exact nLit _))
        refine gq_back (i + 1, 0, false) ⟨by dsimp only; omega, by dsimp only; omega, by simp, by simp, ?_⟩ (by dsimp only; omega) rfl (by repeat first | exact subS_nil | refine subS_cons rfl ?_) (by repeat first | exact List.Sublist.refl _ | exact List.nil_sublist _ | refine List.Sublist.cons _ ?_)
        rw [hJ, show i - k + 1 = i + 1 - k by omega]
      · rw [if_neg hbig] at hJ
        have hbig' : ¬ n * base + hexI (bAt s i) > 9007199254740992 := hbig
        repeat' (first | (with_reducible (first | apply gc_seq | apply gc_region | apply g_nil | apply gq_then | apply gc_block | apply gc_exit | apply gc_ret | apply gc_skip | apply gq_then_exit | apply gq_then_ret | apply gq_block_same | apply gq_block_normal | apply gq_block_ret)) | ((with_reducible apply g_p); exact rfl) | ((with_reducible apply g_enter_s); exact rfl; exact rfl; exact rfl; (first | ((with_reducible apply e_call1); kernel_rfl; exact rfl)); exact fun w μc hw hse => hex_spec _ h1 h2 w μc hw) | ((with_reducible apply gc_if); exact rfl) | (with_reducible (first | apply pif_t | apply pif_f | apply pif_not)) | ((with_reducible apply pif_decT); (first | omega | with_reducible assumption | with_reducible rfl)) | ((with_reducible apply pif_decF); (first | omega | with_reducible assumption | with_reducible exact ne_self_f _)) | (((with_reducible apply pif_tt); exact rfl)) | (((with_reducible apply pif_ff); exact rfl)) | (with_reducible (first | refine pif_dec (fun hp => ?_) (fun hp => ?_) | refine pif_b (fun hp => ?_) (fun hp => ?_))) | ((with_reducible apply g_ar); exact rfl; omega) | ((with_reducible apply g_v); exact rfl; (first | ((with_reducible apply v_sindex_n); exact rfl; exact rfl; exact rfl; omega) | ((with_reducible apply arB_sound); exact rfl; omega) | ((with_reducible apply v_len_row 0); exact rfl; exact rfl; exact rfl) | ((with_reducible apply v_len_row 1); exact rfl; exact rfl; exact rfl) | ((with_reducible apply v_len_row 2); exact rfl; exact rfl; exact rfl) | ((with_reducible apply v_len_row 3); exact rfl; exact rfl; exact rfl))) | ((with_reducible apply gq_block_other); exact rfl) | ((with_reducible apply g_if); exact rfl; (fail_if_success (with_reducible show NLit true)); (fail_if_success (with_reducible show NLit false)); exact nLit _))
        refine gq_back (i + 1, n * base + hexI (bAt s i), ok) ⟨by dsimp only; omega, by dsimp only; omega, by dsimp only; omega, by dsimp only; omega, ?_⟩ (by dsimp only; omega) rfl (by repeat first | exact subS_nil | refine subS_cons rfl ?_) (by repeat first | exact List.Sublist.refl _ | exact List.nil_sublist _ | refine List.Sublist.cons _ ?_)
        rw [hJ, show i - k + 1 = i + 1 - k by omega]
  · have hd : digitsL base ((bl s).drop i) n ok = (n, 0, ok) := by rw [drop_end (by omega), digitsL]
    repeat' (first | (with_reducible (first | apply gc_seq | apply gc_region | apply g_nil | apply gq_then | apply gc_block | apply gc_exit | apply gc_ret | apply gc_skip | apply gq_then_exit | apply gq_then_ret | apply gq_block_same | apply gq_block_normal | apply gq_block_ret)) | ((with_reducible apply g_p); exact rfl) | ((with_reducible apply gc_if); exact rfl) | (with_reducible (first | apply pif_t | apply pif_f | apply pif_not)) | ((with_reducible apply pif_decT); (first | omega | with_reducible assumption | with_reducible rfl)) | ((with_reducible apply pif_decF); (first | omega | with_reducible assumption | with_reducible exact ne_self_f _)) | (((with_reducible apply pif_tt); exact rfl)) | (((with_reducible apply pif_ff); exact rfl)) | (with_reducible (first | refine pif_dec (fun hp => ?_) (fun hp => ?_) | refine pif_b (fun hp => ?_) (fun hp => ?_))) | ((with_reducible apply g_ar); exact rfl; omega) | ((with_reducible apply g_v); exact rfl; (first | ((with_reducible apply v_sindex_n); exact rfl; exact rfl; exact rfl; omega) | ((with_reducible apply arB_sound); exact rfl; omega) | ((with_reducible apply v_len_row 0); exact rfl; exact rfl; exact rfl) | ((with_reducible apply v_len_row 1); exact rfl; exact rfl; exact rfl) | ((with_reducible apply v_len_row 2); exact rfl; exact rfl; exact rfl) | ((with_reducible apply v_len_row 3); exact rfl; exact rfl; exact rfl))) | ((with_reducible apply gq_block_other); exact rfl) | ((with_reducible apply g_if); exact rfl; (fail_if_success (with_reducible show NLit true)); (fail_if_success (with_reducible show NLit false)); exact nLit _))
    exact ret_vn rfl (by repeat first | exact rvs_nil | refine rvs_cons (by first | exact rv_tmp rfl | exact (rv_agg 0 rfl rfl rfl rfl rfl (by repeat first | exact lc_nil | refine lc_cons rfl ?_)) | exact (rv_agg 1 rfl rfl rfl rfl rfl (by repeat first | exact lc_nil | refine lc_cons rfl ?_)) | exact (rv_agg 2 rfl rfl rfl rfl rfl (by repeat first | exact lc_nil | refine lc_cons rfl ?_)) | exact (rv_agg 3 rfl rfl rfl rfl rfl (by repeat first | exact lc_nil | refine lc_cons rfl ?_))) ?_) rfl (hfin _ hd rfl)
end Go.Proofs.YtnodfbjbcmkkhaaDoor
