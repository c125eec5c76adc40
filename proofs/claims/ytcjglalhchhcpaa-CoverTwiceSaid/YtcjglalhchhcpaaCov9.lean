/- What element computes, on trees; the contracts of item, prop and their closures, given that of element on smaller trees. -/
import Derived.Test.YtcjglalhchhcpaaCov8
namespace Go.Proofs.Ytcjglalhchhcpaa
open Go.RowKit Go.Vcg
attribute [local irreducible] G GC GQ GA GAop Calls IntKind.wrap Int.decLt Int.decLe

/-- the results up to the first that is an error -/
def eachF (g : Nat → TE) (n : Nat) : Option Nat := (List.range n).find? fun i => decide ((g i).2 ≠ 0)
def itemF (el : T → Int → Bool → TE) (ks : List T) (i : Nat) (deep : Int) : TE :=
  match ks[i]? with
  | none => errT 24
  | some t => if t.op = 41 then lastF ks i deep (fun k => el k (deep + 1) false) else if t.op = 40 then (t, 0) else el t deep true
def restF (deep : Int) (k : T) : TE := if deep + 1 > 200 then errT 10 else if targetF k then (k, 0) else errT 24
def propF (el : T → Int → Bool → TE) (ks : List T) (i : Nat) (deep : Int) : TE :=
  match ks[i]? with
  | none => errT 24
  | some t =>
    if t.op = 39 ∧ t.n = 4 then lastF ks i deep (restF deep) else if deep > 200 then errT 10 else if t.op = 39 ∧ t.n = 3 then shortF t deep
    else if t.op ≠ 39 ∨ t.n ≠ 0 then errT 24 else
    match t.kids with
    | [a, b] => if (el b (deep + 1) true).2 ≠ 0 then errT (el b (deep + 1) true).2 else (T.mk 62 t.at' 0 t.m empty [a, (el b (deep + 1) true).1], 0)
    | _ => errT 24
def elF : Nat → T → Int → Bool → TE
  | 0, _, _, _ => errT 0
  | N + 1, t, deep, may =>
    if deep > 200 then errT 10 else if patternF t then (t, 0) else if t.op = 46 ∧ may = true ∧ t.s = ⟨#[61]⟩ ∧ t.kids.length = 2 then byDefaultF t deep else
    if t.op = 37 ∨ t.op = 38 then
      let g := fun i => if t.op = 37 then itemF (elF N) t.kids i (deep + 1) else propF (elF N) t.kids i (deep + 1)
      match eachF g t.kids.length with
      | some i => errT (g i).2
      | none => (T.mk (if t.op = 37 then 60 else 61) t.at' 0 0 empty ((List.range t.kids.length).map fun i => (g i).1), 0)
    else errT 24

/-- the contract of element, for a tree -/
def ElOK (el : T → Int → Bool → TE) (t : T) : Prop := ∀ (w : World) (μ : Mem) (kv : Value) (deep : Int) (may : Bool), MOk μ w → KR μ t.kids kv → t.size ≤ 1000000 → 0 ≤ deep ∧ deep ≤ 1000 →
  Calls Try.prog 16 #[.agg (encT t kv).toArray, .int .i64 deep, .bool may] w fun e w' => ∃ v μ', e = .returned v ∧ Grow w w' μ μ' ∧ TEV μ' (el t deep may) v

theorem MCell.of_blk {μ : Mem} {x : Blk} {v : Value} (h : Bk.sh (.inl x) μ) (hv : lk x.cs 0 = some v) : MCell μ ⟨x.b, 0, none⟩ v := by
  obtain ⟨arr, h1, _, h3⟩ := h
  exact ⟨arr, x.t, (0, 0), h1, rfl, h3 0 v hv⟩

theorem item1_ok (el : T → Int → Bool → TE) (k : T) (h : ElOK el k) (hsz : k.size ≤ 1000000) (b : Nat) (deep : Int) (hd : 0 ≤ deep ∧ deep ≤ 900) (μ : Mem) (hb : MCell μ ⟨b, 0, none⟩ (.int .i64 deep)) :
    FnOK 24 [.pointer (some ⟨b, 0, none⟩)] μ (fun k => el k (deep + 1) false) k := by
  intro w μ1 u hμ hle hk
  refine call_intro Try.func24 rfl Try.ntmps24 (by simp) hμ ?_
  have hb1 := hb.mono hle
  repeat' (first | (with_reducible (first | apply gc_seq | apply gc_region | apply g_nil | apply gq_then | apply gc_block | apply gc_exit | apply gc_ret | apply gc_skip | apply gq_then_exit | apply gq_then_ret | apply gq_block_same | apply gq_block_normal | apply gq_block_ret)) | ((with_reducible apply g_p); exact rfl) | ((with_reducible apply g_enter_m); exact rfl; exact rfl; exact rfl; (first | ((with_reducible apply e_call3); kernel_rfl; exact rfl; exact rfl; exact rfl)); (exact fun w hw => h w μ1 u (deep + 1) false hw hk hsz (by omega)); rintro v2 μ2 hle2 ⟨u2, rfl, hk2⟩) | ((with_reducible apply g_storeS_0); exact rfl; exact rfl; exact rfl; exact rfl; exact rfl; exact tv_one hk2.one; exact rfl; (repeat first | with_reducible exact pc_nil | with_reducible apply pc_cons)) | ((with_reducible apply gc_if); exact rfl) | (with_reducible (first | apply pif_t | apply pif_f | apply pif_not)) | ((with_reducible apply pif_decT); (first | omega | with_reducible assumption | with_reducible rfl)) | ((with_reducible apply pif_decF); (first | omega | with_reducible assumption | with_reducible exact ne_self_f _)) | (((with_reducible apply pif_tt); exact rfl)) | (((with_reducible apply pif_ff); exact rfl)) | (with_reducible (first | refine pif_dec (fun hp => ?_) (fun hp => ?_) | refine pif_b (fun hp => ?_) (fun hp => ?_))) | ((with_reducible apply g_ar); exact rfl; omega) | ((with_reducible apply g_ld); exact rfl; exact rfl; (repeat first | with_reducible exact inb_hd | with_reducible apply inb_tl); exact rfl) | ((with_reducible apply g_v); exact rfl; (first | ((with_reducible apply v_load_sh); exact rfl; exact rfl; exact hb1))) | ((with_reducible apply g_nw); exact rfl; exact rfl; exact rfl; intro b) | ((with_reducible apply g_st); exact rfl; exact rfl; (repeat first | with_reducible exact ones_nil | ((with_reducible apply ones_cons); (first | exact rfl | assumption))); (repeat first | with_reducible apply upb_hd | with_reducible apply upb_tl); exact rfl; (repeat first | with_reducible exact pc_nil | with_reducible apply pc_cons)) | ((with_reducible apply gq_block_other); exact rfl) | ((with_reducible apply g_if); exact rfl; (fail_if_success (with_reducible show NLit true)); (fail_if_success (with_reducible show NLit false)); exact nLit _))
  exact ret_m2 rfl (rv_agg 0 rfl rfl rfl rfl rfl (by repeat first | exact lc_nil | refine lc_cons rfl ?_)) (rv_tmp rfl) (fun μ' hle' hL => ⟨_, rfl, hk2.mono hle'⟩)
theorem prop1_ok (k : T) (hsz : k.size ≤ 1000000) (b : Nat) (deep : Int) (hd : 0 ≤ deep ∧ deep ≤ 900) (μ : Mem) (hb : MCell μ ⟨b, 0, none⟩ (.int .i64 deep)) :
    FnOK 27 [.pointer (some ⟨b, 0, none⟩)] μ (restF deep) k := by
  intro w μ1 u hμ hle hk
  refine call_intro Try.func27 rfl Try.ntmps27 (by simp) hμ ?_
  have hb1 := hb.mono hle
  unfold restF
  repeat' (first | (with_reducible (first | apply gc_seq | apply gc_region | apply g_nil | apply gq_then | apply gc_block | apply gc_exit | apply gc_ret | apply gc_skip | apply gq_then_exit | apply gq_then_ret | apply gq_block_same | apply gq_block_normal | apply gq_block_ret)) | ((with_reducible apply g_p); exact rfl) | ((with_reducible apply g_enter_s); exact rfl; exact rfl; exact rfl; (first | ((with_reducible apply e_call1); kernel_rfl; exact rfl)); exact fun w μc hk hse => target_spec w μc hk k u) | ((with_reducible apply g_enter_m); exact rfl; exact rfl; exact rfl; (first | ((with_reducible apply e_call1); kernel_rfl; exact rfl)); (exact fun w hw => copied_spec k w μ1 u hw hk hsz); rintro v2 μ2 hle2 ⟨u2, rfl, hk2⟩) | ((with_reducible apply g_storeS_0); exact rfl; exact rfl; exact rfl; exact rfl; exact rfl; exact tv_one hk2.one; exact rfl; (repeat first | with_reducible exact pc_nil | with_reducible apply pc_cons)) | ((with_reducible apply gc_if); exact rfl) | (with_reducible (first | apply pif_t | apply pif_f | apply pif_not)) | ((with_reducible apply pif_decT); (first | omega | with_reducible assumption | with_reducible rfl)) | ((with_reducible apply pif_decF); (first | omega | with_reducible assumption | with_reducible exact ne_self_f _)) | (((with_reducible apply pif_tt); exact rfl)) | (((with_reducible apply pif_ff); exact rfl)) | (with_reducible (first | refine pif_dec (fun hp => ?_) (fun hp => ?_) | refine pif_b (fun hp => ?_) (fun hp => ?_))) | ((with_reducible apply g_ar); exact rfl; omega) | ((with_reducible apply g_ld); exact rfl; exact rfl; (repeat first | with_reducible exact inb_hd | with_reducible apply inb_tl); exact rfl) | ((with_reducible apply g_v); exact rfl; (first | ((with_reducible apply v_load_sh); exact rfl; exact rfl; exact hb1))) | ((with_reducible apply g_nw); exact rfl; exact rfl; exact rfl; intro b) | ((with_reducible apply g_st); exact rfl; exact rfl; (repeat first | with_reducible exact ones_nil | ((with_reducible apply ones_cons); (first | exact rfl | assumption))); (repeat first | with_reducible apply upb_hd | with_reducible apply upb_tl); exact rfl; (repeat first | with_reducible exact pc_nil | with_reducible apply pc_cons)) | ((with_reducible apply gq_block_other); exact rfl) | ((with_reducible apply g_if); exact rfl; (fail_if_success (with_reducible show NLit true)); (fail_if_success (with_reducible show NLit false)); exact nLit _))
  · rw [if_pos (by omega)]
    exact ret_m2 rfl (rv_agg 0 rfl rfl rfl rfl rfl (by repeat first | exact lc_nil | refine lc_cons rfl ?_)) (rv_tmp rfl) (fun μ' hle' hL => TEV.zero μ' 10)
  · rw [if_neg (by omega), if_pos (by simp_all)]
    exact ret_m2 rfl (rv_agg 0 rfl rfl rfl rfl rfl (by repeat first | exact lc_nil | refine lc_cons rfl ?_)) (rv_tmp rfl) (fun μ' hle' hL => ⟨_, rfl, hk2.mono hle'⟩)
  · rw [if_neg (by omega), if_neg (by simp_all)]
    exact ret_m2 rfl (rv_agg 0 rfl rfl rfl rfl rfl (by repeat first | exact lc_nil | refine lc_cons rfl ?_)) (rv_tmp rfl) (fun μ' hle' hL => TEV.zero μ' 24)
end Go.Proofs.Ytcjglalhchhcpaa
