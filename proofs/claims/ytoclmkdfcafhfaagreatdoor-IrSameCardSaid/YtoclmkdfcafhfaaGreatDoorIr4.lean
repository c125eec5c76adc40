/- Package ir's row, Name and IsExpr and the reference's, at every int. No statement of the seat is proved here. -/
import Derived.Test.YtoclmkdfcafhfaaGreatDoorIr3a
import Derived.Test.YtoclmkdfcafhfaaGreatDoorIr3b
import Derived.Test.YtoclmkdfcafhfaaGreatDoorIr3c
import Derived.Test.YtoclmkdfcafhfaaGreatDoorIr3d
import Derived.Test.YtoclmkdfcafhfaaGreatDoorIr3e
import Derived.Test.YtoclmkdfcafhfaaGreatDoorVs
set_option maxRecDepth 20000
namespace Go.Vcg
open Go.RowKit
/-- x - y, as the machine computes it -/
def subW (x y : Int) : Int := IntKind.i64.wrap (x - y)
section
variable {P : Program} {μ : Mem} {l : Slots} {L : List Bk}
variable {ty : TypeId} {pos : String} {af : Array Edge} {gd : Option (Nat × Bool)} {ds : Option Nat}
theorem v_subw {p q : Operand} {t t2 : TypeId} {x y : Int} (hx0 : ev l p = some (.int .i64 x)) (hx1 : ev l q = some (.int .i64 y)) : Val P μ l L ⟨ds, .binOp .sub t p q t2, ty, pos, af, gd⟩ (.int .i64 (subW x y)) := v_sub hx0 hx1
end
theorem subW_out {x y n : Int} (hx : -9223372036854775808 ≤ x ∧ x ≤ 9223372036854775807) (hy : 0 ≤ y ∧ y ≤ 200) (hn : n ≤ 200) (h : x < y ∨ y + n < x) : subW x y < 0 ∨ n < subW x y := by
  simp only [subW, IntKind.wrap]
  simp [IntKind.signed, IntKind.bits]
  split <;> omega
end Go.Vcg
namespace Go.Proofs.YtoclmkdfcafhfaaGreatDoor
open Go.Rex Go.RowKit Go.Vcg Go.Shelf
set_option maxRecDepth 20000
/-- the listed variable is there, in every world that holds the memory -/
def MaxM (μ : Mem) : Prop := ∀ w, MOk μ w → MaxAt w
theorem MaxM.mono {μ μ' : Mem} (h : MaxM μ) (hle : MLe μ μ') : MaxM μ' := fun w hw => h w (fun b o e => hw b o (hle b o e))
theorem row_runs : runs 24 rowV rowT := runs_app runs_row0 (runs_app runs_row1 (runs_app runs_row2 (runs_app runs_row3 runs_row4)))
theorem ref_runs : runs 9 (fun x => strV x.1) rowT := runs_app runs_ref0 (runs_app runs_ref1 (runs_app runs_ref2 (runs_app runs_ref3 runs_ref4)))
theorem out_all : (List.range 173).all (fun k => (findR k rowT).isSome || (Nat.blt k 100 || (Nat.ble 148 k && Nat.blt k 160))) = true := by kernel_rfl
theorem in_all : rowT.all (fun x => Nat.ble 100 x.1 && Nat.ble x.1 172) = true := by kernel_rfl
theorem out_of {k : Nat} (h : findR k rowT = none) : k < 100 ∨ (148 ≤ k ∧ k < 160) ∨ 172 < k := by
  by_cases hk : k < 173
  · have := List.all_eq_true.1 out_all k (List.mem_range.2 hk)
    rw [h] at this
    simp [Nat.blt, Nat.ble_eq] at this
    omega
  · omega
def rowI (op : Int) : List UInt8 × List UInt8 := rowAt op.toNat
/-- an int is a kind of the table, or out of the table -/
theorem kinds (op : Int) : (∃ k x, op = Int.ofNat k ∧ findR k rowT = some x ∧ rowI op = x) ∨ ((op < 100 ∨ (148 ≤ op ∧ op < 160) ∨ 172 < op) ∧ rowI op = ([], [])) := by
  cases h : findR op.toNat rowT with
  | none =>
    have h1 := out_of h
    refine .inr ⟨by omega, ?_⟩
    unfold rowI rowAt
    rw [h]
  | some x =>
    by_cases hp : 0 ≤ op
    · refine .inl ⟨op.toNat, x, by simp; omega, h, ?_⟩
      unfold rowI rowAt
      rw [h]
    · exfalso
      rw [show op.toNat = 0 by omega, show findR 0 rowT = none by kernel_rfl] at h
      cases h
attribute [local irreducible] rowI G GC GQ GA GAop Calls IntKind.wrap Int.decLt Int.decLe
theorem count_spec (s : ByteArray) (n : Nat) (hn : cntF 124 (bl s) = n) (w : World) (μ : Mem) (hμ : MOk μ w) : Calls Tryz.prog 54 #[.string s, .string ⟨#[124]⟩] w fun e w' => e = .returned (.int .i64 n) ∧ Below w.heap.size w w' := by
  refine (Any.strings_Count_one Tryz.lays138 s 124 w).mono fun e w'' ⟨h1, h2⟩ => ⟨?_, h2 ▸ Below.refl _ _⟩
  rw [h1, cntF_eq]
  unfold bl at hn
  rw [hn]
theorem row_spec (w : World) (μ : Mem) (hμ : MOk μ w) (hm : MaxM μ) (op : Int) (ho : -9223372036854775808 ≤ op ∧ op ≤ 9223372036854775807) :
    Calls Tryz.prog 24 #[.int .i64 op] w fun e w' => e = .returned (rowV (rowI op)) ∧ Below w.heap.size w w' := by
  rcases kinds op with ⟨k, x, rfl, h1, h2⟩ | ⟨h1, h2⟩
  · rw [h2]
    exact runP_sound mixed noQ (pr0_ok (hm w hμ)) (by decide) (fun g cs h => by cases h) (runs_find row_runs h1)
  · rw [h2]
    refine call_intro Tryz.func24 rfl Tryz.ntmps24 (by simp) hμ ?_
    by_cases h160 : 160 ≤ op
    · have hs := subW_out (n := 12) ho (y := 160) (by omega) (by omega) (by omega)
      repeat' (first | (with_reducible (first | apply gc_seq | apply gc_region | apply g_nil | apply gq_then | apply gc_block | apply gc_exit | apply gc_ret | apply gc_skip | apply gq_then_exit | apply gq_then_ret | apply gq_block_same | apply gq_block_normal | apply gq_block_ret)) | ((with_reducible apply g_p); exact rfl) | ((with_reducible show G _ _ _ _ (Oper.mk _ (Op.call (Call.mk (Callee.value (Operand.func 54)) _ _)) _ _ _ _ :: _) _ _ _); (with_reducible apply g_enter_s); exact rfl; exact rfl; exact rfl; (first | ((with_reducible apply e_call2); kernel_rfl; exact rfl; exact rfl)); exact fun w μc hw' hse => count_spec _ 12 (by kernel_rfl) w μc hw') | ((with_reducible apply gc_if); exact rfl) | (with_reducible (first | apply pif_t | apply pif_f | apply pif_not)) | ((with_reducible apply pif_decT); (first | omega | with_reducible assumption | with_reducible rfl)) | ((with_reducible apply pif_decF); (first | omega | with_reducible assumption | with_reducible exact ne_self_f _)) | (((with_reducible apply pif_tt); exact rfl)) | (((with_reducible apply pif_ff); exact rfl)) | (with_reducible (first | refine pif_dec (fun hp => ?_) (fun hp => ?_) | refine pif_b (fun hp => ?_) (fun hp => ?_))) | ((with_reducible apply g_ar); exact rfl; omega) | ((with_reducible apply g_v); exact rfl; (first | ((with_reducible apply v_subw); exact rfl; exact rfl) | ((with_reducible apply arB_sound); exact rfl; omega))) | ((with_reducible apply gq_block_other); exact rfl) | ((with_reducible apply g_if); exact rfl; (fail_if_success (with_reducible show NLit true)); (fail_if_success (with_reducible show NLit false)); exact nLit _))
      all_goals first | (exfalso; omega) | exact ret_v2 rfl (by first | exact rv_tmp rfl | exact (rv_agg 0 rfl rfl rfl rfl rfl (by repeat first | exact lc_nil | refine lc_cons rfl ?_)) | exact (rv_agg 1 rfl rfl rfl rfl rfl (by repeat first | exact lc_nil | refine lc_cons rfl ?_)) | exact (rv_agg 2 rfl rfl rfl rfl rfl (by repeat first | exact lc_nil | refine lc_cons rfl ?_)) | exact (rv_agg 3 rfl rfl rfl rfl rfl (by repeat first | exact lc_nil | refine lc_cons rfl ?_))) (by first | exact rv_tmp rfl | exact (rv_agg 0 rfl rfl rfl rfl rfl (by repeat first | exact lc_nil | refine lc_cons rfl ?_)) | exact (rv_agg 1 rfl rfl rfl rfl rfl (by repeat first | exact lc_nil | refine lc_cons rfl ?_)) | exact (rv_agg 2 rfl rfl rfl rfl rfl (by repeat first | exact lc_nil | refine lc_cons rfl ?_)) | exact (rv_agg 3 rfl rfl rfl rfl rfl (by repeat first | exact lc_nil | refine lc_cons rfl ?_))) rfl rfl
    · have hs := subW_out (n := 47) ho (y := 100) (by omega) (by omega) (by omega)
      repeat' (first | (with_reducible (first | apply gc_seq | apply gc_region | apply g_nil | apply gq_then | apply gc_block | apply gc_exit | apply gc_ret | apply gc_skip | apply gq_then_exit | apply gq_then_ret | apply gq_block_same | apply gq_block_normal | apply gq_block_ret)) | ((with_reducible apply g_p); exact rfl) | ((with_reducible show G _ _ _ _ (Oper.mk _ (Op.call (Call.mk (Callee.value (Operand.func 54)) _ _)) _ _ _ _ :: _) _ _ _); (with_reducible apply g_enter_s); exact rfl; exact rfl; exact rfl; (first | ((with_reducible apply e_call2); kernel_rfl; exact rfl; exact rfl)); exact fun w μc hw' hse => count_spec _ 47 (by kernel_rfl) w μc hw') | ((with_reducible apply gc_if); exact rfl) | (with_reducible (first | apply pif_t | apply pif_f | apply pif_not)) | ((with_reducible apply pif_decT); (first | omega | with_reducible assumption | with_reducible rfl)) | ((with_reducible apply pif_decF); (first | omega | with_reducible assumption | with_reducible exact ne_self_f _)) | (((with_reducible apply pif_tt); exact rfl)) | (((with_reducible apply pif_ff); exact rfl)) | (with_reducible (first | refine pif_dec (fun hp => ?_) (fun hp => ?_) | refine pif_b (fun hp => ?_) (fun hp => ?_))) | ((with_reducible apply g_ar); exact rfl; omega) | ((with_reducible apply g_v); exact rfl; (first | ((with_reducible apply v_subw); exact rfl; exact rfl) | ((with_reducible apply arB_sound); exact rfl; omega))) | ((with_reducible apply gq_block_other); exact rfl) | ((with_reducible apply g_if); exact rfl; (fail_if_success (with_reducible show NLit true)); (fail_if_success (with_reducible show NLit false)); exact nLit _))
      all_goals first | (exfalso; omega) | exact ret_v2 rfl (by first | exact rv_tmp rfl | exact (rv_agg 0 rfl rfl rfl rfl rfl (by repeat first | exact lc_nil | refine lc_cons rfl ?_)) | exact (rv_agg 1 rfl rfl rfl rfl rfl (by repeat first | exact lc_nil | refine lc_cons rfl ?_)) | exact (rv_agg 2 rfl rfl rfl rfl rfl (by repeat first | exact lc_nil | refine lc_cons rfl ?_)) | exact (rv_agg 3 rfl rfl rfl rfl rfl (by repeat first | exact lc_nil | refine lc_cons rfl ?_))) (by first | exact rv_tmp rfl | exact (rv_agg 0 rfl rfl rfl rfl rfl (by repeat first | exact lc_nil | refine lc_cons rfl ?_)) | exact (rv_agg 1 rfl rfl rfl rfl rfl (by repeat first | exact lc_nil | refine lc_cons rfl ?_)) | exact (rv_agg 2 rfl rfl rfl rfl rfl (by repeat first | exact lc_nil | refine lc_cons rfl ?_)) | exact (rv_agg 3 rfl rfl rfl rfl rfl (by repeat first | exact lc_nil | refine lc_cons rfl ?_))) rfl rfl
theorem name_spec (w : World) (μ : Mem) (hμ : MOk μ w) (hm : MaxM μ) (op : Int) (ho : -9223372036854775808 ≤ op ∧ op ≤ 9223372036854775807) :
    Calls Tryz.prog 8 #[.int .i64 op] w fun e w' => e = .returned (strV (rowI op).1) ∧ Below w.heap.size w w' := by
  refine call_intro Tryz.func8 rfl Tryz.ntmps8 (by simp) hμ ?_
  repeat' (first | (with_reducible (first | apply gc_seq | apply gc_region | apply g_nil | apply gq_then | apply gc_block | apply gc_exit | apply gc_ret | apply gc_skip | apply gq_then_exit | apply gq_then_ret | apply gq_block_same | apply gq_block_normal | apply gq_block_ret)) | ((with_reducible apply g_p); exact rfl) | ((with_reducible apply g_enter_s); exact rfl; exact rfl; exact rfl; (first | ((with_reducible apply e_call1); kernel_rfl; exact rfl)); exact fun w μc hw' hse => row_spec w μc hw' (hm.mono hse.le) op ho) | ((with_reducible apply gc_if); exact rfl) | (with_reducible (first | apply pif_t | apply pif_f | apply pif_not)) | ((with_reducible apply pif_decT); (first | omega | with_reducible assumption | with_reducible rfl)) | ((with_reducible apply pif_decF); (first | omega | with_reducible assumption | with_reducible exact ne_self_f _)) | (((with_reducible apply pif_tt); exact rfl)) | (((with_reducible apply pif_ff); exact rfl)) | (with_reducible (first | refine pif_dec (fun hp => ?_) (fun hp => ?_) | refine pif_b (fun hp => ?_) (fun hp => ?_))) | ((with_reducible apply gq_block_other); exact rfl) | ((with_reducible apply g_if); exact rfl; (fail_if_success (with_reducible show NLit true)); (fail_if_success (with_reducible show NLit false)); exact nLit _))
  exact ret_v1 rfl (by first | exact rv_tmp rfl | exact (rv_agg 0 rfl rfl rfl rfl rfl (by repeat first | exact lc_nil | refine lc_cons rfl ?_)) | exact (rv_agg 1 rfl rfl rfl rfl rfl (by repeat first | exact lc_nil | refine lc_cons rfl ?_)) | exact (rv_agg 2 rfl rfl rfl rfl rfl (by repeat first | exact lc_nil | refine lc_cons rfl ?_)) | exact (rv_agg 3 rfl rfl rfl rfl rfl (by repeat first | exact lc_nil | refine lc_cons rfl ?_))) rfl
theorem rcut_run : runP Tryz.prog 1000 [] pr0 [] 400 25 [.string ⟨⟨[]⟩⟩] = some (.tuple ⟨[.string ⟨⟨[]⟩⟩, .string ⟨⟨[]⟩⟩]⟩) := by kernel_rfl
theorem rrow_spec (w : World) (μ : Mem) (hμ : MOk μ w) (op : Int) (h1 : op < 100 ∨ (148 ≤ op ∧ op < 160) ∨ 172 < op) :
    Calls Tryz.prog 26 #[.int .i64 op] w fun e w' => e = .returned (.string ⟨#[]⟩) ∧ Below w.heap.size w w' := by
  refine call_intro Tryz.func26 rfl Tryz.ntmps26 (by simp) hμ ?_
  repeat' (first | (with_reducible (first | apply gc_seq | apply gc_region | apply g_nil | apply gq_then | apply gc_block | apply gc_exit | apply gc_ret | apply gc_skip | apply gq_then_exit | apply gq_then_ret | apply gq_block_same | apply gq_block_normal | apply gq_block_ret)) | ((with_reducible apply g_p); exact rfl) | ((with_reducible apply gc_if); exact rfl) | (with_reducible (first | apply pif_t | apply pif_f | apply pif_not)) | ((with_reducible apply pif_decT); (first | omega | with_reducible assumption | with_reducible rfl)) | ((with_reducible apply pif_decF); (first | omega | with_reducible assumption | with_reducible exact ne_self_f _)) | (((with_reducible apply pif_tt); exact rfl)) | (((with_reducible apply pif_ff); exact rfl)) | (with_reducible (first | refine pif_dec (fun hp => ?_) (fun hp => ?_) | refine pif_b (fun hp => ?_) (fun hp => ?_))) | ((with_reducible apply g_ar); exact rfl; omega) | ((with_reducible apply g_ld); exact rfl; exact rfl; (repeat first | with_reducible exact inb_hd | with_reducible apply inb_tl); exact rfl) | ((with_reducible apply g_v); exact rfl; (first | ((with_reducible apply v_index_n); exact rfl; exact rfl; exact rfl; exact rfl; omega) | ((with_reducible apply arB_sound); exact rfl; omega))) | ((with_reducible apply gq_block_other); exact rfl) | ((with_reducible apply g_if); exact rfl; (fail_if_success (with_reducible show NLit true)); (fail_if_success (with_reducible show NLit false)); exact nLit _))
  all_goals first | (exfalso; omega) | exact ret_v1 rfl (by first | exact rv_tmp rfl | exact (rv_agg 0 rfl rfl rfl rfl rfl (by repeat first | exact lc_nil | refine lc_cons rfl ?_)) | exact (rv_agg 1 rfl rfl rfl rfl rfl (by repeat first | exact lc_nil | refine lc_cons rfl ?_)) | exact (rv_agg 2 rfl rfl rfl rfl rfl (by repeat first | exact lc_nil | refine lc_cons rfl ?_)) | exact (rv_agg 3 rfl rfl rfl rfl rfl (by repeat first | exact lc_nil | refine lc_cons rfl ?_))) rfl
theorem rname_spec (w : World) (μ : Mem) (hμ : MOk μ w) (hm : MaxM μ) (op : Int) :
    Calls Tryz.prog 9 #[.int .i64 op] w fun e w' => e = .returned (strV (rowI op).1) ∧ Below w.heap.size w w' := by
  rcases kinds op with ⟨k, x, rfl, h1, h2⟩ | ⟨h1, h2⟩
  · rw [h2]
    exact runP_sound mixed noQ (pr0_ok (hm w hμ)) (by decide) (fun g cs h => by cases h) (runs_find ref_runs h1)
  · rw [h2]
    refine call_intro Tryz.func9 rfl Tryz.ntmps9 (by simp) hμ ?_
    repeat' (first | (with_reducible (first | apply gc_seq | apply gc_region | apply g_nil | apply gq_then | apply gc_block | apply gc_exit | apply gc_ret | apply gc_skip | apply gq_then_exit | apply gq_then_ret | apply gq_block_same | apply gq_block_normal | apply gq_block_ret)) | ((with_reducible apply g_p); exact rfl) | ((with_reducible show G _ _ _ _ (Oper.mk _ (Op.call (Call.mk (Callee.value (Operand.func 26)) _ _)) _ _ _ _ :: _) _ _ _); (with_reducible apply g_enter_s); exact rfl; exact rfl; exact rfl; (first | ((with_reducible apply e_call1); kernel_rfl; exact rfl)); exact fun w μc hw' hse => rrow_spec w μc hw' op h1) | ((with_reducible show G _ _ _ _ (Oper.mk _ (Op.call (Call.mk (Callee.value (Operand.func 25)) _ _)) _ _ _ _ :: _) _ _ _); (with_reducible apply g_enter_s); exact rfl; exact rfl; exact rfl; (first | ((with_reducible apply e_call1); kernel_rfl; exact rfl)); exact fun w μc hw' hse => runP_sound mixed noQ (pr0_ok (hm.mono hse.le w hw')) (by decide) (fun g cs h => by cases h) rcut_run) | ((with_reducible apply gc_if); exact rfl) | (with_reducible (first | apply pif_t | apply pif_f | apply pif_not)) | ((with_reducible apply pif_decT); (first | omega | with_reducible assumption | with_reducible rfl)) | ((with_reducible apply pif_decF); (first | omega | with_reducible assumption | with_reducible exact ne_self_f _)) | (((with_reducible apply pif_tt); exact rfl)) | (((with_reducible apply pif_ff); exact rfl)) | (with_reducible (first | refine pif_dec (fun hp => ?_) (fun hp => ?_) | refine pif_b (fun hp => ?_) (fun hp => ?_))) | ((with_reducible apply gq_block_other); exact rfl) | ((with_reducible apply g_if); exact rfl; (fail_if_success (with_reducible show NLit true)); (fail_if_success (with_reducible show NLit false)); exact nLit _))
    exact ret_v1 rfl (by first | exact rv_tmp rfl | exact (rv_agg 0 rfl rfl rfl rfl rfl (by repeat first | exact lc_nil | refine lc_cons rfl ?_)) | exact (rv_agg 1 rfl rfl rfl rfl rfl (by repeat first | exact lc_nil | refine lc_cons rfl ?_)) | exact (rv_agg 2 rfl rfl rfl rfl rfl (by repeat first | exact lc_nil | refine lc_cons rfl ?_)) | exact (rv_agg 3 rfl rfl rfl rfl rfl (by repeat first | exact lc_nil | refine lc_cons rfl ?_))) rfl
end Go.Proofs.YtoclmkdfcafhfaaGreatDoor
