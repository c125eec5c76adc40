/- Operators on values: what they compute; the small contracts (truth, sign, IsUnary, IsBinary, one, ahead, ranks, order). -/
import Derived.Test.YtlhmgadmolojmaaDoorCon4
import Derived.Test.YtlhmgadmolojmaaDoorEq5
import Derived.Test.YtlhmgadmolojmaaDoorNumBits3
import Derived.Test.YtlhmgadmolojmaaDoorVs
set_option maxRecDepth 20000
namespace Go.Vcg
open Go.RowKit
section
variable {P : Program} {μ : Mem} {l : Slots} {L : List Bk} {ds : Option Nat} {ty : TypeId} {pos : String} {af : Array Edge} {gd : Option (Nat × Bool)}
theorem v_slss {p q : Operand} {t t2 : TypeId} {x y : ByteArray} (hx0 : ev l p = some (.string x)) (hx1 : ev l q = some (.string y)) : Val P μ l L ⟨ds, .binOp .lss t p q t2, ty, pos, af, gd⟩ (.bool (Op.bytesLess (bl x) (bl y))) := fun a w hs => by
  have e0 := hs.eval hx0; have e1 := hs.eval hx1; generalize a.eval = ρ at e0 e1
  have h : ∀ z : ByteArray, z.toList = bl z := fun z => ByteArray.toList_eq z
  simp [execOp, e0, e1, eqGuard, binOp, Op.stringOp, h]
end
end Go.Vcg
namespace Go.Proofs.YtlhmgadmolojmaaDoor
open Go.RowKit Go.Vcg
def zeroV : V := ⟨0, 0, noS⟩
def truthV (b : Bool) : V := ⟨2, if b = true then 1 else 0, noS⟩
def unL : List ByteArray := [⟨#[45]⟩, ⟨#[43]⟩, ⟨#[33]⟩, ⟨#[126]⟩, ⟨#[118, 111, 105, 100]⟩]
def binL : List ByteArray := [⟨#[124]⟩, ⟨#[94]⟩, ⟨#[38]⟩, ⟨#[61, 61]⟩, ⟨#[33, 61]⟩, ⟨#[61, 61, 61]⟩, ⟨#[33, 61, 61]⟩, ⟨#[60]⟩, ⟨#[62]⟩, ⟨#[60, 61]⟩, ⟨#[62, 61]⟩, ⟨#[60, 60]⟩, ⟨#[62, 62]⟩, ⟨#[43]⟩, ⟨#[45]⟩, ⟨#[42]⟩, ⟨#[47]⟩, ⟨#[37]⟩]
def signF (op : ByteArray) (n : V) : V := if op = ⟨#[45]⟩ then negF n else if op = ⟨#[126]⟩ then bitsF ⟨#[94]⟩ n ⟨3, -1, noS⟩ else n
def unaryF (op : ByteArray) (v : V) : V × Int :=
  if op = ⟨#[118, 111, 105, 100]⟩ then (zeroV, 0) else if op = ⟨#[33]⟩ then (truthV (!truthF v), 0)
  else if op = ⟨#[43]⟩ ∨ op = ⟨#[45]⟩ ∨ op = ⟨#[126]⟩ then (if (conNumF v).2 ≠ 0 then (zeroV, (conNumF v).2) else (signF op (conNumF v).1, 0)) else (zeroV, 13)
/-- a relation, from 'less' and 'more' -/
def rankF (op : ByteArray) (less more : Bool) : Bool := if op = ⟨#[60]⟩ then less else if op = ⟨#[62]⟩ then more else if op = ⟨#[60, 61]⟩ then !more else !less
def lessOp (op : ByteArray) (x y : V) : Bool := if (lessF x y).2 = true then rankF op (lessF x y).1 (lessF y x).1 else false
def joinF (a b : V) : V × Int :=
  if (conTextF a).2 ≠ 0 then (zeroV, (conTextF a).2) else if (conTextF b).2 ≠ 0 then (zeroV, (conTextF b).2)
  else if (conTextF a).1.size + (conTextF b).1.size > 65536 then (zeroV, 14) else (⟨5, 0, (conTextF a).1 ++ (conTextF b).1⟩, 0)
def numsF (g : V → V → V) (a b : V) : V × Int :=
  if (conNumF a).2 ≠ 0 then (zeroV, (conNumF a).2) else if (conNumF b).2 ≠ 0 then (zeroV, (conNumF b).2) else (g (conNumF a).1 (conNumF b).1, 0)
def relF (op : ByteArray) (a b : V) : V × Int :=
  if a.k = 5 ∧ b.k = 5 then (truthV (rankF op (Op.bytesLess (bl a.s) (bl b.s)) (Op.bytesLess (bl b.s) (bl a.s))), 0) else numsF (fun x y => truthV (lessOp op x y)) a b
def binF (op : ByteArray) (a b : V) : V × Int :=
  if op = ⟨#[61, 61, 61]⟩ then (truthV (strictF a b), 0) else if op = ⟨#[33, 61, 61]⟩ then (truthV (!strictF a b), 0)
  else if op = ⟨#[61, 61]⟩ then (if (looseF a b).2 = true then (truthV (looseF a b).1, 0) else (zeroV, 13))
  else if op = ⟨#[33, 61]⟩ then (if (looseF a b).2 = true then (truthV (!(looseF a b).1), 0) else (zeroV, 13))
  else if op = ⟨#[43]⟩ then (if a.k = 5 ∨ b.k = 5 then joinF a b else numsF (twoF addG) a b)
  else if op = ⟨#[45]⟩ then numsF (twoF subG) a b else if op = ⟨#[42]⟩ then numsF (twoF mulG) a b else if op = ⟨#[47]⟩ then numsF (twoF divG) a b else if op = ⟨#[37]⟩ then numsF (twoF remG) a b
  else if op = ⟨#[60]⟩ ∨ op = ⟨#[62]⟩ ∨ op = ⟨#[60, 61]⟩ ∨ op = ⟨#[62, 61]⟩ then relF op a b
  else if op = ⟨#[124]⟩ ∨ op = ⟨#[94]⟩ ∨ op = ⟨#[38]⟩ ∨ op = ⟨#[60, 60]⟩ ∨ op = ⟨#[62, 62]⟩ then numsF (bitsF op) a b else (zeroV, 13)
theorem cmp_less (x y : List UInt8) : (Lib.compareBytes x y < 0 ↔ Op.bytesLess x y = true) ∧ (0 < Lib.compareBytes x y ↔ Op.bytesLess y x = true) := by
  induction x generalizing y with
  | nil => cases y <;> simp [Lib.compareBytes, Op.bytesLess]
  | cons a x ih =>
    cases y with
    | nil => simp [Lib.compareBytes, Op.bytesLess]
    | cons c y =>
      have h1 : ¬ (a < c ∧ c < a) := fun h => absurd (UInt8.lt_trans h.1 h.2) (UInt8.lt_irrefl a)
      have h2 : ¬ a < c → ¬ c < a → a = c := fun h h' => UInt8.le_antisymm (UInt8.not_lt.1 h') (UInt8.not_lt.1 h)
      simp only [Lib.compareBytes, Op.bytesLess]
      by_cases h : a < c
      · have hn : ¬ c < a := fun h' => h1 ⟨h, h'⟩
        have hne : ¬ c = a := fun e => by subst e; exact hn h
        simp [h, hn, hne]
      · by_cases h' : c < a
        · have hne : ¬ a = c := fun e => by subst e; exact h h'
          simp [h, h', hne]
        · have e := h2 h h'
          subst e
          simpa [h] using ih y
def aheadF (op : ByteArray) (c : Int) : Bool := if op = ⟨#[60]⟩ then decide (c < 0) else if op = ⟨#[62]⟩ then decide (0 < c) else if op = ⟨#[60, 61]⟩ then decide (c ≤ 0) else decide (0 ≤ c)
theorem ahead_rank (op x y : ByteArray) : aheadF op (Lib.compareBytes (bl x) (bl y)) = rankF op (Op.bytesLess (bl x) (bl y)) (Op.bytesLess (bl y) (bl x)) := by
  obtain ⟨h1, h2⟩ := cmp_less (bl x) (bl y)
  generalize Lib.compareBytes (bl x) (bl y) = c at *
  generalize Op.bytesLess (bl x) (bl y) = p at *
  generalize Op.bytesLess (bl y) (bl x) = q at *
  unfold aheadF rankF
  repeat' split
  all_goals (cases p <;> cases q <;> simp at h1 h2 ⊢ <;> omega)
attribute [local irreducible] G GC GQ GA GAop Calls IntKind.wrap Int.decLt Int.decLe bAt
section
variable (w : World) (μ : Mem) (hμ : MOk μ w)
include hμ
theorem opTruth_spec (c : Bool) : Calls Tryd.prog 12 #[.bool c] w fun e w' => e = .returned (.agg (encV (truthV c)).toArray) ∧ Below w.heap.size w w' := by
  refine call_intro Tryd.func12 rfl Tryd.ntmps12 (by simp) hμ ?_
  cases c
  all_goals repeat' (first | (with_reducible (first | apply gc_seq | apply gc_region | apply g_nil | apply gq_then | apply gc_block | apply gc_exit | apply gc_ret | apply gc_skip | apply gq_then_exit | apply gq_then_ret | apply gq_block_same | apply gq_block_normal | apply gq_block_ret)) | ((with_reducible apply g_p); exact rfl) | ((with_reducible apply gc_if); exact rfl) | (with_reducible (first | apply pif_t | apply pif_f | apply pif_not)) | ((with_reducible apply pif_decT); (first | omega | with_reducible assumption | with_reducible rfl)) | ((with_reducible apply pif_decF); (first | omega | with_reducible assumption | with_reducible exact ne_self_f _)) | (((with_reducible apply pif_tt); exact rfl)) | (((with_reducible apply pif_ff); exact rfl)) | (with_reducible (first | refine pif_dec (fun hp => ?_) (fun hp => ?_) | refine pif_b (fun hp => ?_) (fun hp => ?_))) | ((with_reducible apply g_ld); exact rfl; exact rfl; (repeat first | with_reducible exact inb_hd | with_reducible apply inb_tl); exact rfl) | ((with_reducible apply g_v); exact rfl; (first | ((with_reducible apply v_field_n); exact rfl; exact rfl))) | ((with_reducible apply g_nw); exact rfl; exact rfl; exact rfl; intro b) | ((with_reducible apply g_st); exact rfl; exact rfl; (repeat first | with_reducible exact ones_nil | ((with_reducible apply ones_cons); (first | exact rfl | assumption))); (repeat first | with_reducible apply upb_hd | with_reducible apply upb_tl); exact rfl; (repeat first | with_reducible exact pc_nil | with_reducible apply pc_cons)) | ((with_reducible apply gq_block_other); exact rfl) | ((with_reducible apply g_if); exact rfl; (fail_if_success (with_reducible show NLit true)); (fail_if_success (with_reducible show NLit false)); exact nLit _))
  all_goals exact ret_v1 rfl (by first | exact rv_tmp rfl | exact (rv_agg 0 rfl rfl rfl rfl rfl (by repeat first | exact lc_nil | refine lc_cons rfl ?_)) | exact (rv_agg 1 rfl rfl rfl rfl rfl (by repeat first | exact lc_nil | refine lc_cons rfl ?_)) | exact (rv_agg 2 rfl rfl rfl rfl rfl (by repeat first | exact lc_nil | refine lc_cons rfl ?_)) | exact (rv_agg 3 rfl rfl rfl rfl rfl (by repeat first | exact lc_nil | refine lc_cons rfl ?_))) rfl
theorem isBinary_spec (op : ByteArray) : Calls Tryd.prog 11 #[.string op] w fun e w' => e = .returned (.bool (hasS binL op)) ∧ Below w.heap.size w w' := by
  refine call_intro Tryd.func11 rfl Tryd.ntmps11 (by simp) hμ ?_
  repeat' (first | (with_reducible (first | apply gc_seq | apply gc_region | apply g_nil | apply gq_then | apply gc_block | apply gc_exit | apply gc_ret | apply gc_skip | apply gq_then_exit | apply gq_then_ret | apply gq_block_same | apply gq_block_normal | apply gq_block_ret)) | ((with_reducible apply g_p); exact rfl) | ((with_reducible apply gc_if); exact rfl) | (with_reducible (first | apply pif_t | apply pif_f | apply pif_not)) | ((with_reducible apply pif_decT); (first | omega | with_reducible assumption | with_reducible rfl)) | ((with_reducible apply pif_decF); (first | omega | with_reducible assumption | with_reducible exact ne_self_f _)) | (((with_reducible apply pif_tt); exact rfl)) | (((with_reducible apply pif_ff); exact rfl)) | (with_reducible (first | refine pif_dec (fun hp => ?_) (fun hp => ?_) | refine pif_b (fun hp => ?_) (fun hp => ?_))) | ((with_reducible apply g_v); exact rfl; (first | ((with_reducible apply v_aggeql); exact rfl; exact rfl; exact rfl; kernel_rfl; kernel_rfl; kernel_rfl; kernel_rfl))) | ((with_reducible apply gq_block_other); exact rfl) | ((with_reducible apply g_if); exact rfl; (fail_if_success (with_reducible show NLit true)); (fail_if_success (with_reducible show NLit false)); exact nLit _))
  all_goals first | (subst hp; exact ret_s rfl rfl rfl) | (refine ret_s rfl rfl ?_; simp [hasS, binL, *]; done)
theorem ahead_spec (op : ByteArray) (c : Int) : Calls Tryd.prog 16 #[.string op, .int .i64 c] w fun e w' => e = .returned (.bool (aheadF op c)) ∧ Below w.heap.size w w' := by
  refine call_intro Tryd.func16 rfl Tryd.ntmps16 (by simp) hμ ?_
  unfold aheadF
  repeat' (first | (with_reducible (first | apply gc_seq | apply gc_region | apply g_nil | apply gq_then | apply gc_block | apply gc_exit | apply gc_ret | apply gc_skip | apply gq_then_exit | apply gq_then_ret | apply gq_block_same | apply gq_block_normal | apply gq_block_ret)) | ((with_reducible apply g_p); exact rfl) | ((with_reducible apply gc_if); exact rfl) | (with_reducible (first | apply pif_t | apply pif_f | apply pif_not)) | ((with_reducible apply pif_decT); (first | omega | with_reducible assumption | with_reducible rfl)) | ((with_reducible apply pif_decF); (first | omega | with_reducible assumption | with_reducible exact ne_self_f _)) | (((with_reducible apply pif_tt); exact rfl)) | (((with_reducible apply pif_ff); exact rfl)) | (with_reducible (first | refine pif_dec (fun hp => ?_) (fun hp => ?_) | refine pif_b (fun hp => ?_) (fun hp => ?_))) | ((with_reducible apply g_v); exact rfl; (first | ((with_reducible apply v_aggeql); exact rfl; exact rfl; exact rfl; kernel_rfl; kernel_rfl; kernel_rfl; kernel_rfl))) | ((with_reducible apply gq_block_other); exact rfl) | ((with_reducible apply g_if); exact rfl; (fail_if_success (with_reducible show NLit true)); (fail_if_success (with_reducible show NLit false)); exact nLit _))
  all_goals (refine ret_s rfl rfl ?_; simp [*]; done)
end
end Go.Proofs.YtlhmgadmolojmaaDoor
