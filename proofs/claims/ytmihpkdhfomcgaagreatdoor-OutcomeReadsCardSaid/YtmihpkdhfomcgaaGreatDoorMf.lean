/- Package outcome: Read. (and what leans on it). No statement of the seat is proved here. -/
import Derived.Test.YtmihpkdhfomcgaaGreatDoorMl
import Derived.Test.YtmihpkdhfomcgaaGreatDoorSt
set_option maxRecDepth 20000
set_option maxHeartbeats 2000000
namespace Go.Proofs.YtmihpkdhfomcgaaGreatDoor
open Go.RowKit Go.Vcg Ou
def RdPost (r : Except (Int × Int) OutP) (μ : Mem) (v : Value) : Prop := match r with
  | .ok o => ∃ a, v = .tuple #[a, .int .i64 0, .int .i64 0] ∧ OutV μ o a
  | .error x => v = .tuple #[.agg #[.int .i64 0, .int .i64 0, .int .i64 0, .string ⟨#[]⟩, .slice none 0 0, .slice none 0 0, .int .i64 0, .int .i64 0], .int .i64 x.1, .int .i64 x.2]
attribute [local irreducible] G GC GQ GA GAop GD Calls IntKind.wrap Int.decLt Int.decLe
theorem oread_spec (s : List UInt8) (hs : s.length ≤ 90000) (w : World) (μ : Mem) (hμ : MOk μ w) (hm : MaxOk μ) (hT : TabOk μ) :
    Calls Tryz.prog 5 #[.string (ofB s)] w fun e w' => ∃ v μ', e = .returned v ∧ Grow w w' μ μ' ∧ RdPost (readO keyR s) μ' v := by
  obtain ⟨res, hres⟩ : ∃ res, readO keyR s = res := ⟨_, rfl⟩
  have hcall := fun (rb : Nat) (w2 : World) (hw2 : MOk μ w2) (hO2 : Go.Vcg.Own μ (rdB rb (s, 0, [])) w2) => all_spec s hs rb w2 μ hw2 hm hT hO2
  rw [hres] at hcall ⊢
  refine call_introD (args := [.string (ofB s)]) Tryz.func5 rfl Tryz.ntmps5 (by simp) hμ ?_
  repeat' (first | ((with_reducible show GC _ _ (Code.seq (Code.region 1 _ _) _) _ _ _ _); (apply gc_stop)) | refine KK ?_ | refine NB fun b => ?_ | ((refine KB ?_ ?_ <;> intro hp)) | refine KG ?_ | fail)
  rename_i bo bl
  obtain ⟨be, hbe⟩ : ∃ x, x = b := ⟨_, rfl⟩
  rw [← hbe]
  clear hbe
  refine gcs ?_
  repeat' (first | ((with_reducible show GC _ _ (Code.seq (Code.region 2 _ _) _) _ _ _ _); (apply gc_stop)) | refine KK ?_ | refine NB fun b => ?_ | ((refine KB ?_ ?_ <;> intro hp)) | refine KG ?_ | fail)
  rename_i rb
  obtain ⟨bp, hbp⟩ : ∃ x, x = b := ⟨_, rfl⟩
  rw [← hbp]
  clear hbp
  refine gcs (gc_seq (gc_region ?_))
  repeat' (first | refine KK ?_ | refine NB fun b => ?_ | ((refine KB ?_ ?_ <;> intro hp)) | refine KG ?_ | fail)
  refine g_defer (dd := { target := .fn (.func 9) #[.pointer (some ⟨bp, 0, none⟩), .pointer (some ⟨bo, 0, none⟩), .pointer (some ⟨bl, 0, none⟩), .pointer (some ⟨be, 0, none⟩)], args := #[] }) rfl rfl (fun a w hr => ?_) ?_ (by simp)
  · have e := hr.eval (x := .tmp 9) rfl
    generalize a.eval = ρ at e
    simp [execOp, resolve, e, Deferred.ofValue]
  refine g_nil (qd_then ?_)
  refine gd_sel (l' := [(2, .pointer (some ⟨bo, 0, none⟩)), (3, .pointer (some ⟨bl, 0, none⟩)), (4, .pointer (some ⟨be, 0, none⟩)), (5, .pointer (some ⟨bp, 0, none⟩))]) (L' := rdB rb (s, 0, []) ++ [.inl ⟨bp, 33, 1, [(0, .pointer (some ⟨rb, 0, none⟩))]⟩, .inl ⟨bo, 27, 8, []⟩, .inl ⟨bl, 3, 1, []⟩, .inl ⟨be, 23, 1, []⟩]) PU PS ?_
  dsimp only [List.cons_append, List.nil_append]
  cases res with
  | error x =>
    repeat' (first | ((with_reducible (first | apply gd_seq | apply gd_region | apply qd_then | apply gd_ret | apply gd_skip | apply qd_then_panic))) | refine KO ?_ | ((with_reducible apply g_enter_panB 1); exact rfl; ((with_reducible apply e_call1); kernel_rfl; exact rfl); exact rfl; (exact hcall rb); (rintro μ2 i2 hle2); (dsimp only [List.cons_append, List.nil_append])) | refine KI ?_ | refine NB fun b => ?_ | ((refine KB ?_ ?_ <;> intro hp)) | refine KG ?_ | fail)
    refine gq_sel (l' := [(2, .pointer (some ⟨bo, 0, none⟩)), (3, .pointer (some ⟨bl, 0, none⟩)), (4, .pointer (some ⟨be, 0, none⟩))]) (L' := boxR bp rb bo bl be (i2.1, x.1, i2.2) ++ []) PU PS ?_
    exact pan_D (LB := boxR bp rb bo bl be (i2.1, x.1, i2.2)) (LB' := boxP bp rb bo bl be (i2.1, x.1, i2.2) x.2) (Lr := []) (cap := [.pointer (some ⟨bp, 0, none⟩), .pointer (some ⟨bo, 0, none⟩), .pointer (some ⟨bl, 0, none⟩), .pointer (some ⟨be, 0, none⟩)]) (vs := [.agg #[.int .i64 0, .int .i64 0, .int .i64 0, .string ⟨#[]⟩, .slice none 0 0, .slice none 0 0, .int .i64 0, .int .i64 0], .int .i64 x.1, .int .i64 x.2]) (by kernel_rfl) (fun w2 hw2 hO2 => read1_panic x.2 bp rb bo bl be (i2.1, x.1, i2.2) w2 μ2 hw2 hO2) rfl (rvs_cons (rv_agg 1 rfl rfl rfl rfl rfl (by repeat first | exact lc_nil | refine lc_cons rfl ?_)) (rvs_cons (rv_one 2 rfl rfl rfl rfl rfl) (rvs_cons (rv_one 3 rfl rfl rfl rfl rfl) rvs_nil))) rfl (fun _ _ _ => rfl)
  | ok o =>
    repeat' (first | ((with_reducible (first | apply gd_seq | apply gd_region | apply qd_then | apply gd_ret | apply gd_skip | apply qd_then_panic))) | refine KO ?_ | ((with_reducible apply g_enter_bor (Ls := fun i : RS3 => rdB rb i) (Post := fun μ' r _ => OutV μ' o r) 1); exact rfl; exact rfl; exact rfl; ((with_reducible apply e_call1); kernel_rfl; exact rfl); exact rfl; (exact hcall rb); (rintro v2 μ2 i2 hle2 ⟨A, c, B, d, rfl, hA, hB⟩); (dsimp only [List.cons_append, List.nil_append])) | refine KI ?_ | refine NB fun b => ?_ | ((refine KB ?_ ?_ <;> intro hp)) | refine KG ?_ | fail)
    refine gq_sel (l' := [(2, .pointer (some ⟨bo, 0, none⟩)), (3, .pointer (some ⟨bl, 0, none⟩)), (4, .pointer (some ⟨be, 0, none⟩))]) (L' := [.inl ⟨bo, 27, 8, idx 0 [.int .i64 o.e, .int .i64 o.at_, .int .i64 o.fin, .string o.text, .slice A o.out.length c, .slice B o.log.length d, .int .i64 o.steps, .int .i64 o.made]⟩, .inl ⟨bl, 3, 1, [(0, .int .i64 0)]⟩, .inl ⟨be, 23, 1, [(0, .int .i64 0)]⟩]) PU PS ?_
    exact ret_DQ (cap := [.pointer (some ⟨bp, 0, none⟩), .pointer (some ⟨bo, 0, none⟩), .pointer (some ⟨bl, 0, none⟩), .pointer (some ⟨be, 0, none⟩)]) (vs := [.agg #[.int .i64 o.e, .int .i64 o.at_, .int .i64 o.fin, .string o.text, .slice A o.out.length c, .slice B o.log.length d, .int .i64 o.steps, .int .i64 o.made], .int .i64 0, .int .i64 0]) quiet_read1 (by kernel_rfl) rfl (rvs_cons (rv_agg 0 rfl rfl rfl rfl rfl (by repeat first | exact lc_nil | refine lc_cons rfl ?_)) (rvs_cons (rv_one 1 rfl rfl rfl rfl rfl) (rvs_cons (rv_one 2 rfl rfl rfl rfl rfl) rvs_nil))) rfl (fun μ' hle hL => ⟨_, rfl, A, c, B, d, rfl, hA.mono hle, hB.mono hle⟩)
end Go.Proofs.YtmihpkdhfomcgaaGreatDoor
namespace Go.Proofs.YtmihpkdhfomcgaaGreatDoor
open Go.RowKit Go.Vcg Ou
noncomputable def mayB (o : OutP) : Bool := @decide (MayO keyR o) (Classical.propDecidable _)
theorem mayB_t {o : OutP} (h : MayO keyR o) : mayB o = true := by unfold mayB; exact @decide_eq_true _ (Classical.propDecidable _) h
theorem mayB_f {o : OutP} (h : ¬ MayO keyR o) : mayB o = false := by unfold mayB; exact @decide_eq_false _ (Classical.propDecidable _) h
abbrev encO (o : OutP) (A B : Option Addr) (c d : Nat) : List Value := [.int .i64 o.e, .int .i64 o.at_, .int .i64 o.fin, .string o.text, .slice A o.out.length c, .slice B o.log.length d, .int .i64 o.steps, .int .i64 o.made]
theorem ofB_nil_iff {l : List UInt8} : ofB l = ⟨#[]⟩ ↔ l = [] := ⟨fun h => ofB_inj (b := []) h, fun h => by rw [h]; rfl⟩
attribute [local irreducible] G GC GQ GA GAop Calls IntKind.wrap Int.decLt Int.decLe
theorem may_e (o : OutP) (A B : Option Addr) (c d : Nat) (he : o.e ≠ 0) (w : World) (μ : Mem) (hμ : MOk μ w) :
    Calls Tryz.prog 13 #[.agg (encO o A B c d).toArray] w fun en w' => en = .returned (.bool (mayB o)) ∧ Below w.heap.size w w' := by
  have hM : MayO keyR o ↔ (errB o.e ≠ [] ∧ inB o.at_ ∧ o.fin = 0 ∧ o.text = ⟨#[]⟩ ∧ o.out = [] ∧ o.log = [] ∧ o.steps = 0 ∧ o.made = 0) := by unfold MayO; rw [if_pos he]
  have hin := oin_spec o.at_
  refine call_intro (args := [.agg (encO o A B c d).toArray]) Tryz.func13 rfl Tryz.ntmps13 (by simp) hμ ?_
  by_cases c1 : ofB (errB o.e) = ⟨#[]⟩
  · rw [mayB_f (fun h' => by have h := hM.1 h'; exact h.1 (ofB_nil_iff.1 c1))]
    repeat' (first | refine KO ?_ | ((with_reducible apply F1 37); exact rfl; exact EN; (exact fun w μc hw hse => hin w μc hw)) | ((with_reducible apply F1 14); exact rfl; exact EN; (exact fun w μc hw hse => errno_spec o.e w μc hw)) | ((with_reducible apply F1 16); exact rfl; exact EN; (exact fun w μc hw hse => ends_spec o.fin w μc hw)) | refine KI ?_ | refine NB fun b => ?_ | ((refine KB ?_ ?_ <;> intro hp)) | refine KG ?_ | fail)
    all_goals first | (exfalso; first | omega | contradiction | (exact absurd ‹_› ‹¬ _›)) | (refine ret_s rfl rfl ?_; first | rfl | (congr 1; simp [*]; done) | (simp_all; done))
  by_cases c2 : inB o.at_
  rotate_left
  · rw [mayB_f (fun h' => by have h := hM.1 h'; exact c2 h.2.1)]
    rw [decide_eq_false c2] at hin
    repeat' (first | refine KO ?_ | ((with_reducible apply F1 37); exact rfl; exact EN; (exact fun w μc hw hse => hin w μc hw)) | ((with_reducible apply F1 14); exact rfl; exact EN; (exact fun w μc hw hse => errno_spec o.e w μc hw)) | ((with_reducible apply F1 16); exact rfl; exact EN; (exact fun w μc hw hse => ends_spec o.fin w μc hw)) | refine KI ?_ | refine NB fun b => ?_ | ((refine KB ?_ ?_ <;> intro hp)) | refine KG ?_ | fail)
    all_goals first | (exfalso; first | omega | contradiction | (exact absurd ‹_› ‹¬ _›)) | (refine ret_s rfl rfl ?_; first | rfl | (congr 1; simp [*]; done) | (simp_all; done))
  rw [decide_eq_true c2] at hin
  by_cases c3 : o.fin = 0
  rotate_left
  · rw [mayB_f (fun h' => by have h := hM.1 h'; exact c3 h.2.2.1)]
    repeat' (first | refine KO ?_ | ((with_reducible apply F1 37); exact rfl; exact EN; (exact fun w μc hw hse => hin w μc hw)) | ((with_reducible apply F1 14); exact rfl; exact EN; (exact fun w μc hw hse => errno_spec o.e w μc hw)) | ((with_reducible apply F1 16); exact rfl; exact EN; (exact fun w μc hw hse => ends_spec o.fin w μc hw)) | refine KI ?_ | refine NB fun b => ?_ | ((refine KB ?_ ?_ <;> intro hp)) | refine KG ?_ | fail)
    all_goals first | (exfalso; first | omega | contradiction | (exact absurd ‹_› ‹¬ _›)) | (refine ret_s rfl rfl ?_; first | rfl | (congr 1; simp [*]; done) | (simp_all; done))
  by_cases c4 : o.text = ⟨#[]⟩
  rotate_left
  · rw [mayB_f (fun h' => by have h := hM.1 h'; exact c4 h.2.2.2.1)]
    repeat' (first | refine KO ?_ | ((with_reducible apply F1 37); exact rfl; exact EN; (exact fun w μc hw hse => hin w μc hw)) | ((with_reducible apply F1 14); exact rfl; exact EN; (exact fun w μc hw hse => errno_spec o.e w μc hw)) | ((with_reducible apply F1 16); exact rfl; exact EN; (exact fun w μc hw hse => ends_spec o.fin w μc hw)) | refine KI ?_ | refine NB fun b => ?_ | ((refine KB ?_ ?_ <;> intro hp)) | refine KG ?_ | fail)
    all_goals first | (exfalso; first | omega | contradiction | (exact absurd ‹_› ‹¬ _›)) | (refine ret_s rfl rfl ?_; first | rfl | (congr 1; simp [*]; done) | (simp_all; done))
  by_cases c5 : o.out.length = 0
  rotate_left
  · rw [mayB_f (fun h' => by have h := hM.1 h'; exact c5 (by rw [h.2.2.2.2.1]; rfl))]
    repeat' (first | refine KO ?_ | ((with_reducible apply F1 37); exact rfl; exact EN; (exact fun w μc hw hse => hin w μc hw)) | ((with_reducible apply F1 14); exact rfl; exact EN; (exact fun w μc hw hse => errno_spec o.e w μc hw)) | ((with_reducible apply F1 16); exact rfl; exact EN; (exact fun w μc hw hse => ends_spec o.fin w μc hw)) | refine KI ?_ | refine NB fun b => ?_ | ((refine KB ?_ ?_ <;> intro hp)) | refine KG ?_ | fail)
    all_goals first | (exfalso; first | omega | contradiction | (exact absurd ‹_› ‹¬ _›)) | (refine ret_s rfl rfl ?_; first | rfl | (congr 1; simp [*]; done) | (simp_all; done))
  by_cases c6 : o.log.length = 0
  rotate_left
  · rw [mayB_f (fun h' => by have h := hM.1 h'; exact c6 (by rw [h.2.2.2.2.2.1]; rfl))]
    repeat' (first | refine KO ?_ | ((with_reducible apply F1 37); exact rfl; exact EN; (exact fun w μc hw hse => hin w μc hw)) | ((with_reducible apply F1 14); exact rfl; exact EN; (exact fun w μc hw hse => errno_spec o.e w μc hw)) | ((with_reducible apply F1 16); exact rfl; exact EN; (exact fun w μc hw hse => ends_spec o.fin w μc hw)) | refine KI ?_ | refine NB fun b => ?_ | ((refine KB ?_ ?_ <;> intro hp)) | refine KG ?_ | fail)
    all_goals first | (exfalso; first | omega | contradiction | (exact absurd ‹_› ‹¬ _›)) | (refine ret_s rfl rfl ?_; first | rfl | (congr 1; simp [*]; done) | (simp_all; done))
  by_cases c7 : o.steps = 0
  rotate_left
  · rw [mayB_f (fun h' => by have h := hM.1 h'; exact c7 h.2.2.2.2.2.2.1)]
    repeat' (first | refine KO ?_ | ((with_reducible apply F1 37); exact rfl; exact EN; (exact fun w μc hw hse => hin w μc hw)) | ((with_reducible apply F1 14); exact rfl; exact EN; (exact fun w μc hw hse => errno_spec o.e w μc hw)) | ((with_reducible apply F1 16); exact rfl; exact EN; (exact fun w μc hw hse => ends_spec o.fin w μc hw)) | refine KI ?_ | refine NB fun b => ?_ | ((refine KB ?_ ?_ <;> intro hp)) | refine KG ?_ | fail)
    all_goals first | (exfalso; first | omega | contradiction | (exact absurd ‹_› ‹¬ _›)) | (refine ret_s rfl rfl ?_; first | rfl | (congr 1; simp [*]; done) | (simp_all; done))
  by_cases c8 : o.made = 0
  rotate_left
  · rw [mayB_f (fun h' => by have h := hM.1 h'; exact c8 h.2.2.2.2.2.2.2)]
    repeat' (first | refine KO ?_ | ((with_reducible apply F1 37); exact rfl; exact EN; (exact fun w μc hw hse => hin w μc hw)) | ((with_reducible apply F1 14); exact rfl; exact EN; (exact fun w μc hw hse => errno_spec o.e w μc hw)) | ((with_reducible apply F1 16); exact rfl; exact EN; (exact fun w μc hw hse => ends_spec o.fin w μc hw)) | refine KI ?_ | refine NB fun b => ?_ | ((refine KB ?_ ?_ <;> intro hp)) | refine KG ?_ | fail)
    all_goals first | (exfalso; first | omega | contradiction | (exact absurd ‹_› ‹¬ _›)) | (refine ret_s rfl rfl ?_; first | rfl | (congr 1; simp [*]; done) | (simp_all; done))
  rw [mayB_t (hM.2 ⟨fun h => c1 (ofB_nil_iff.2 h), c2, c3, c4, List.length_eq_zero_iff.1 c5, List.length_eq_zero_iff.1 c6, c7, c8⟩)]
  repeat' (first | refine KO ?_ | ((with_reducible apply F1 37); exact rfl; exact EN; (exact fun w μc hw hse => hin w μc hw)) | ((with_reducible apply F1 14); exact rfl; exact EN; (exact fun w μc hw hse => errno_spec o.e w μc hw)) | ((with_reducible apply F1 16); exact rfl; exact EN; (exact fun w μc hw hse => ends_spec o.fin w μc hw)) | refine KI ?_ | refine NB fun b => ?_ | ((refine KB ?_ ?_ <;> intro hp)) | refine KG ?_ | fail)
  all_goals first | (exfalso; first | omega | contradiction | (exact absurd ‹_› ‹¬ _›)) | (refine ret_s rfl rfl ?_; first | rfl | (congr 1; simp [*]; done) | (simp_all; done))
theorem may_o (o : OutP) (A B : Option Addr) (c d : Nat) (he : o.e = 0) (w : World) (μ : Mem) (hμ : MOk μ w) (hB : Sl encE 5 μ B o.log.length o.log) (hn : o.log.length ≤ 1000000000) (hks : ∀ e ∈ o.log, e.key.s.size ≤ 9223372036854775807) :
    Calls Tryz.prog 13 #[.agg (encO o A B c d).toArray] w fun en w' => en = .returned (.bool (mayB o)) ∧ Below w.heap.size w w' := by
  have hM : MayO keyR o ↔ (o.at_ = 0 ∧ endB o.fin ≠ [] ∧ inB o.steps ∧ inB o.made ∧ ∀ e ∈ o.log, EvR keyR e) := by unfold MayO; rw [if_neg (fun h => h he)]
  have hin1 := oin_spec o.steps
  have hin2 := oin_spec o.made
  refine call_intro (args := [.agg (encO o A B c d).toArray]) Tryz.func13 rfl Tryz.ntmps13 (by simp) hμ ?_
  by_cases c1 : o.at_ = 0
  rotate_left
  · rw [mayB_f (fun h' => by have h := hM.1 h'; exact c1 h.1)]
    repeat' (first | refine KO ?_ | ((with_reducible apply F1 37); exact rfl; exact EN; (first | (exact fun w μc hw hse => hin1 w μc hw) | (exact fun w μc hw hse => hin2 w μc hw))) | ((with_reducible apply F1 16); exact rfl; exact EN; (exact fun w μc hw hse => ends_spec o.fin w μc hw)) | refine KI ?_ | refine NB fun b => ?_ | ((refine KB ?_ ?_ <;> intro hp)) | refine KG ?_ | fail)
    all_goals first | (exfalso; first | omega | contradiction | (exact absurd ‹_› ‹¬ _›)) | (refine ret_s rfl rfl ?_; first | rfl | (congr 1; simp [*]; done) | (simp_all; done))
  by_cases c2 : ofB (endB o.fin) = ⟨#[]⟩
  · rw [mayB_f (fun h' => by have h := hM.1 h'; exact h.2.1 (ofB_nil_iff.1 c2))]
    repeat' (first | refine KO ?_ | ((with_reducible apply F1 37); exact rfl; exact EN; (first | (exact fun w μc hw hse => hin1 w μc hw) | (exact fun w μc hw hse => hin2 w μc hw))) | ((with_reducible apply F1 16); exact rfl; exact EN; (exact fun w μc hw hse => ends_spec o.fin w μc hw)) | refine KI ?_ | refine NB fun b => ?_ | ((refine KB ?_ ?_ <;> intro hp)) | refine KG ?_ | fail)
    all_goals first | (exfalso; first | omega | contradiction | (exact absurd ‹_› ‹¬ _›)) | (refine ret_s rfl rfl ?_; first | rfl | (congr 1; simp [*]; done) | (simp_all; done))
  by_cases c3 : inB o.steps
  rotate_left
  · rw [mayB_f (fun h' => by have h := hM.1 h'; exact c3 h.2.2.1)]
    rw [decide_eq_false c3] at hin1
    repeat' (first | refine KO ?_ | ((with_reducible apply F1 37); exact rfl; exact EN; (first | (exact fun w μc hw hse => hin1 w μc hw) | (exact fun w μc hw hse => hin2 w μc hw))) | ((with_reducible apply F1 16); exact rfl; exact EN; (exact fun w μc hw hse => ends_spec o.fin w μc hw)) | refine KI ?_ | refine NB fun b => ?_ | ((refine KB ?_ ?_ <;> intro hp)) | refine KG ?_ | fail)
    all_goals first | (exfalso; first | omega | contradiction | (exact absurd ‹_› ‹¬ _›)) | (refine ret_s rfl rfl ?_; first | rfl | (congr 1; simp [*]; done) | (simp_all; done))
  rw [decide_eq_true c3] at hin1
  by_cases c4 : inB o.made
  rotate_left
  · rw [mayB_f (fun h' => by have h := hM.1 h'; exact c4 h.2.2.2.1)]
    rw [decide_eq_false c4] at hin2
    repeat' (first | refine KO ?_ | ((with_reducible apply F1 37); exact rfl; exact EN; (first | (exact fun w μc hw hse => hin1 w μc hw) | (exact fun w μc hw hse => hin2 w μc hw))) | ((with_reducible apply F1 16); exact rfl; exact EN; (exact fun w μc hw hse => ends_spec o.fin w μc hw)) | refine KI ?_ | refine NB fun b => ?_ | ((refine KB ?_ ?_ <;> intro hp)) | refine KG ?_ | fail)
    all_goals first | (exfalso; first | omega | contradiction | (exact absurd ‹_› ‹¬ _›)) | (refine ret_s rfl rfl ?_; first | rfl | (congr 1; simp [*]; done) | (simp_all; done))
  rw [decide_eq_true c4] at hin2
  repeat' (first | refine KO ?_ | ((with_reducible apply F1 37); exact rfl; exact EN; (first | (exact fun w μc hw hse => hin1 w μc hw) | (exact fun w μc hw hse => hin2 w μc hw))) | ((with_reducible apply F1 16); exact rfl; exact EN; (exact fun w μc hw hse => ends_spec o.fin w μc hw)) | refine KI ?_ | refine NB fun b => ?_ | ((refine KB ?_ ?_ <;> intro hp)) | refine KG ?_ | fail)
  all_goals first | (exfalso; first | omega | contradiction | (exact absurd ‹_› ‹¬ _›)) | skip
  refine gc_loop (ι := Nat) (fun i => i ≤ o.log.length ∧ ∀ j e, j < i → o.log[j]? = some e → EvR keyR e) (fun i => o.log.length - i) (fun _ => μ) (fun i => [(73, .int .i64 i), (72, .int .i64 o.log.length), (71, .slice B o.log.length d)]) (fun _ => []) 0 ⟨Nat.zero_le _, fun _ _ h => absurd h (by omega)⟩ (fun a w hs => J5 hs) ?_
  rintro i ⟨hi, hall⟩
  by_cases hlt : i < o.log.length
  · obtain ⟨ad, e, rfl, he2, hm⟩ := hB.get hlt
    have hme := List.mem_of_getElem? he2
    have hkr := fun (w : World) (μ : Mem) (hμ : MOk μ w) => keyRight_spec e.key (hks e hme) w μ hμ
    have hin3 := oin_spec e.key.n
    by_cases d1 : e.kind < 1
    · rw [mayB_f (fun h' => by have h := (hM.1 h').2.2.2.2 e hme; exact by have := h.1.1; omega)]
      repeat' (first | refine KO ?_ | ((with_reducible apply F1 37); exact rfl; exact EN; (first | (exact fun w μc hw hse => hin1 w μc hw) | (exact fun w μc hw hse => hin2 w μc hw))) | ((with_reducible apply F1 16); exact rfl; exact EN; (exact fun w μc hw hse => ends_spec o.fin w μc hw)) | ((with_reducible apply F1 38); exact rfl; exact EN; (exact fun w μc hw hse => hkr w μc hw)) | ((with_reducible apply F1 37); exact rfl; exact EN; (exact fun w μc hw hse => hin3 w μc hw)) | (refine KV (b := by first | exact U1 i | exact U4 hm) (c := ?_)) | refine KI ?_ | refine NB fun b => ?_ | ((refine KB ?_ ?_ <;> intro hp)) | refine KG ?_ | fail)
      all_goals first | (exfalso; first | omega | contradiction | (exact absurd ‹_› ‹¬ _›)) | (refine ret_s rfl rfl ?_; first | rfl | (congr 1; simp [*]; done) | (simp_all; done))
    by_cases d2 : 13 < e.kind
    · rw [mayB_f (fun h' => by have h := (hM.1 h').2.2.2.2 e hme; exact by have := h.1.2; omega)]
      repeat' (first | refine KO ?_ | ((with_reducible apply F1 37); exact rfl; exact EN; (first | (exact fun w μc hw hse => hin1 w μc hw) | (exact fun w μc hw hse => hin2 w μc hw))) | ((with_reducible apply F1 16); exact rfl; exact EN; (exact fun w μc hw hse => ends_spec o.fin w μc hw)) | ((with_reducible apply F1 38); exact rfl; exact EN; (exact fun w μc hw hse => hkr w μc hw)) | ((with_reducible apply F1 37); exact rfl; exact EN; (exact fun w μc hw hse => hin3 w μc hw)) | (refine KV (b := by first | exact U1 i | exact U4 hm) (c := ?_)) | refine KI ?_ | refine NB fun b => ?_ | ((refine KB ?_ ?_ <;> intro hp)) | refine KG ?_ | fail)
      all_goals first | (exfalso; first | omega | contradiction | (exact absurd ‹_› ‹¬ _›)) | (refine ret_s rfl rfl ?_; first | rfl | (congr 1; simp [*]; done) | (simp_all; done))
    by_cases d3 : keyR e.key = true
    rotate_left
    · rw [mayB_f (fun h' => by have h := (hM.1 h').2.2.2.2 e hme; exact d3 h.2.1)]
      rw [Bool.eq_false_iff.2 d3] at hkr
      repeat' (first | refine KO ?_ | ((with_reducible apply F1 37); exact rfl; exact EN; (first | (exact fun w μc hw hse => hin1 w μc hw) | (exact fun w μc hw hse => hin2 w μc hw))) | ((with_reducible apply F1 16); exact rfl; exact EN; (exact fun w μc hw hse => ends_spec o.fin w μc hw)) | ((with_reducible apply F1 38); exact rfl; exact EN; (exact fun w μc hw hse => hkr w μc hw)) | ((with_reducible apply F1 37); exact rfl; exact EN; (exact fun w μc hw hse => hin3 w μc hw)) | (refine KV (b := by first | exact U1 i | exact U4 hm) (c := ?_)) | refine KI ?_ | refine NB fun b => ?_ | ((refine KB ?_ ?_ <;> intro hp)) | refine KG ?_ | fail)
      all_goals first | (exfalso; first | omega | contradiction | (exact absurd ‹_› ‹¬ _›)) | (refine ret_s rfl rfl ?_; first | rfl | (congr 1; simp [*]; done) | (simp_all; done))
    rw [d3] at hkr
    by_cases d4 : inB e.key.n
    rotate_left
    · rw [mayB_f (fun h' => by have h := (hM.1 h').2.2.2.2 e hme; exact d4 h.2.2)]
      rw [decide_eq_false d4] at hin3
      repeat' (first | refine KO ?_ | ((with_reducible apply F1 37); exact rfl; exact EN; (first | (exact fun w μc hw hse => hin1 w μc hw) | (exact fun w μc hw hse => hin2 w μc hw))) | ((with_reducible apply F1 16); exact rfl; exact EN; (exact fun w μc hw hse => ends_spec o.fin w μc hw)) | ((with_reducible apply F1 38); exact rfl; exact EN; (exact fun w μc hw hse => hkr w μc hw)) | ((with_reducible apply F1 37); exact rfl; exact EN; (exact fun w μc hw hse => hin3 w μc hw)) | (refine KV (b := by first | exact U1 i | exact U4 hm) (c := ?_)) | refine KI ?_ | refine NB fun b => ?_ | ((refine KB ?_ ?_ <;> intro hp)) | refine KG ?_ | fail)
      all_goals first | (exfalso; first | omega | contradiction | (exact absurd ‹_› ‹¬ _›)) | (refine ret_s rfl rfl ?_; first | rfl | (congr 1; simp [*]; done) | (simp_all; done))
    rw [decide_eq_true d4] at hin3
    have hnext : ∀ j e, j < i + 1 → o.log[j]? = some e → EvR keyR e := fun j e' hj he' => by
      by_cases hji : j = i
      · subst hji
        rw [he2] at he'
        cases he'
        exact ⟨by omega, d3, d4⟩
      · exact hall j e' (by omega) he'
    repeat' (first | refine KO ?_ | ((with_reducible apply F1 37); exact rfl; exact EN; (first | (exact fun w μc hw hse => hin1 w μc hw) | (exact fun w μc hw hse => hin2 w μc hw))) | ((with_reducible apply F1 16); exact rfl; exact EN; (exact fun w μc hw hse => ends_spec o.fin w μc hw)) | ((with_reducible apply F1 38); exact rfl; exact EN; (exact fun w μc hw hse => hkr w μc hw)) | ((with_reducible apply F1 37); exact rfl; exact EN; (exact fun w μc hw hse => hin3 w μc hw)) | (refine KV (b := by first | exact U1 i | exact U4 hm) (c := ?_)) | refine KI ?_ | refine NB fun b => ?_ | ((refine KB ?_ ?_ <;> intro hp)) | refine KG ?_ | fail)
    all_goals first | (exfalso; first | omega | contradiction | (exact absurd ‹_› ‹¬ _›)) | exact J2 (i + 1) ⟨by omega, hnext⟩ (by omega)
  · have hi' : i = o.log.length := by omega
    rw [mayB_t (hM.2 ⟨c1, fun h => c2 (ofB_nil_iff.2 h), c3, c4, fun e hme => by
      obtain ⟨j, hj⟩ := List.mem_iff_getElem?.1 hme
      exact hall j e (by have := (List.getElem?_eq_some_iff.1 hj).1; omega) hj⟩)]
    repeat' (first | refine KK ?_ | refine NB fun b => ?_ | ((refine KB ?_ ?_ <;> intro hp)) | refine KG ?_ | fail)
    all_goals first | (exfalso; first | omega | contradiction | (exact absurd ‹_› ‹¬ _›)) | (refine ret_s rfl rfl ?_; first | rfl | (congr 1; simp [*]; done) | (simp_all; done))
theorem may_spec (o : OutP) (A B : Option Addr) (c d : Nat) (w : World) (μ : Mem) (hμ : MOk μ w) (hB : Sl encE 5 μ B o.log.length o.log) (hn : o.log.length ≤ 1000000000) (hks : ∀ e ∈ o.log, e.key.s.size ≤ 9223372036854775807) :
    Calls Tryz.prog 13 #[.agg (encO o A B c d).toArray] w fun en w' => en = .returned (.bool (mayB o)) ∧ Below w.heap.size w w' := by
  by_cases he : o.e = 0
  · exact may_o o A B c d he w μ hμ hB hn hks
  · exact may_e o A B c d he w μ hμ
end Go.Proofs.YtmihpkdhfomcgaaGreatDoor
