/- The rules of the walk under short names: the side conditions are closed by the tactics that stand with them. -/
import Derived.Test.YtoclmkdfcafhfaaGreatDoorQae
set_option maxRecDepth 20000
namespace Go.Vcg
section
open Go.RowKit
section
variable {P : Program} {X : Ctx} {ops : Array Oper} {Q : Exit → Act → World → Prop} {rest : List Oper} {μ μr : Mem} {l : Slots} {L Lr : List Bk} {a : Act} {w : World} {o : Oper} {d fuel i : Nat} {listed : Array Bool}
variable {ty : TypeId} {pos : String} {af : Array Edge} {gd : Option (Nat × Bool)} {ds : Option Nat}
theorem Y0 {b off : Nat} {vs : List Value} {L' : List Bk} (hg : G P X ops Q rest μ l L')
    (hd : pnone ops l o = true := by first | exact rfl | fail)
    (h : stop P l o.op = some (b, off, vs) := by first | exact rfl | fail)
    (h1 : Ones vs := by first | (repeat first | with_reducible exact ones_nil | ((with_reducible apply ones_cons); (first | exact rfl | assumption))); done | fail)
    (hu : UpB L b off vs L' := by first | (repeat first | with_reducible apply upb_hd | with_reducible apply upb_tl); exact rfl; (repeat first | with_reducible exact pc_nil | with_reducible apply pc_cons); done | fail) :
    G P X ops Q (o :: rest) μ l L := g_st (hd := hd) (h := h) (h1 := h1) (hu := hu) (hg := hg)
theorem J1 {ι : Type} {J : ι → Prop} {μs : ι → Mem} {ls : ι → Slots} {Ls : ι → List Bk} (j : ι) (hJ : J j)
    (hμ : μs j = μ := by first | exact rfl | fail)
    (hl : SubS (ls j) l := by first | (repeat first | exact subS_nil | refine subS_cons rfl ?_); done | fail)
    (hL : Sel (Ls j) L := by first | (repeat first | exact Sel.nil _ | (refine sel_0 ?_ ?_; focus (first | exact BkLe.refl _ | (refine BkLe.cells ?_; repeat first | exact subS_nil | refine subS_cons rfl ?_))) | (refine sel_1 ?_ ?_; focus (first | exact BkLe.refl _ | (refine BkLe.cells ?_; repeat first | exact subS_nil | refine subS_cons rfl ?_))) | (refine sel_2 ?_ ?_; focus (first | exact BkLe.refl _ | (refine BkLe.cells ?_; repeat first | exact subS_nil | refine subS_cons rfl ?_))) | (refine sel_3 ?_ ?_; focus (first | exact BkLe.refl _ | (refine BkLe.cells ?_; repeat first | exact subS_nil | refine subS_cons rfl ?_))) | (refine sel_4 ?_ ?_; focus (first | exact BkLe.refl _ | (refine BkLe.cells ?_; repeat first | exact subS_nil | refine subS_cons rfl ?_))) | (refine sel_5 ?_ ?_; focus (first | exact BkLe.refl _ | (refine BkLe.cells ?_; repeat first | exact subS_nil | refine subS_cons rfl ?_))) | (refine sel_6 ?_ ?_; focus (first | exact BkLe.refl _ | (refine BkLe.cells ?_; repeat first | exact subS_nil | refine subS_cons rfl ?_))) | (refine sel_7 ?_ ?_; focus (first | exact BkLe.refl _ | (refine BkLe.cells ?_; repeat first | exact subS_nil | refine subS_cons rfl ?_))) | (refine sel_8 ?_ ?_; focus (first | exact BkLe.refl _ | (refine BkLe.cells ?_; repeat first | exact subS_nil | refine subS_cons rfl ?_)))); done | fail) :
    GQ X (Exit.then (Join X J μs ls Ls) Q) .normal μ l L := gq_joinS (j := j) (hJ := hJ) (hμ := hμ) (hl := hl) (hL := hL)
theorem J2 {ι : Type} {J : ι → Prop} {m : ι → Nat} {μs : ι → Mem} {ls : ι → Slots} {Ls : ι → List Bk} {i : ι} (j : ι) (hJ : J j) (hm : m j < m i)
    (hμ : μs j = μ := by first | exact rfl | fail)
    (hl : SubS (ls j) l := by first | (repeat first | exact subS_nil | refine subS_cons rfl ?_); done | fail)
    (hL : Sel (Ls j) L := by first | (repeat first | exact Sel.nil _ | (refine sel_0 ?_ ?_; focus (first | exact BkLe.refl _ | (refine BkLe.cells ?_; repeat first | exact subS_nil | refine subS_cons rfl ?_))) | (refine sel_1 ?_ ?_; focus (first | exact BkLe.refl _ | (refine BkLe.cells ?_; repeat first | exact subS_nil | refine subS_cons rfl ?_))) | (refine sel_2 ?_ ?_; focus (first | exact BkLe.refl _ | (refine BkLe.cells ?_; repeat first | exact subS_nil | refine subS_cons rfl ?_))) | (refine sel_3 ?_ ?_; focus (first | exact BkLe.refl _ | (refine BkLe.cells ?_; repeat first | exact subS_nil | refine subS_cons rfl ?_))) | (refine sel_4 ?_ ?_; focus (first | exact BkLe.refl _ | (refine BkLe.cells ?_; repeat first | exact subS_nil | refine subS_cons rfl ?_))) | (refine sel_5 ?_ ?_; focus (first | exact BkLe.refl _ | (refine BkLe.cells ?_; repeat first | exact subS_nil | refine subS_cons rfl ?_))) | (refine sel_6 ?_ ?_; focus (first | exact BkLe.refl _ | (refine BkLe.cells ?_; repeat first | exact subS_nil | refine subS_cons rfl ?_))) | (refine sel_7 ?_ ?_; focus (first | exact BkLe.refl _ | (refine BkLe.cells ?_; repeat first | exact subS_nil | refine subS_cons rfl ?_))) | (refine sel_8 ?_ ?_; focus (first | exact BkLe.refl _ | (refine BkLe.cells ?_; repeat first | exact subS_nil | refine subS_cons rfl ?_)))); done | fail) :
    GQ X (Exit.then (Back X J m μs ls Ls i) Q) .normal μ l L := gq_backS (j := j) (hJ := hJ) (hm := hm) (hμ := hμ) (hl := hl) (hL := hL)
theorem J4 {ι : Type} {J : ι → Prop} {m : ι → Nat} {μs : ι → Mem} {ls : ι → Slots} {Ls : ι → List Bk} {i : ι} (j : ι) (hJ : J j) (hm : m j < m i)
    (hμ : μs j = μ := by first | exact rfl | fail)
    (hl : SubS (ls j) l := by first | (repeat first | exact subS_nil | refine subS_cons rfl ?_); done | fail)
    (hL : (Ls j).Sublist L := by first | (repeat first | exact List.Sublist.refl _ | exact List.nil_sublist _ | refine List.Sublist.cons_cons _ ?_ | refine List.Sublist.cons _ ?_); done | fail) :
    GQ X (Exit.then (Back X J m μs ls Ls i) Q) .normal μ l L := gq_back (j := j) (hJ := hJ) (hm := hm) (hμ := hμ) (hl := hl) (hL := hL)
theorem J5 {l' : Slots} {L' : List Bk} (h : St X μ l L a w)
    (hl : SubS l' l := by first | (repeat first | exact subS_nil | refine subS_cons rfl ?_); done | fail)
    (hL : Sel L' L := by first | (repeat first | exact Sel.nil _ | (refine sel_0 ?_ ?_; focus (first | exact BkLe.refl _ | (refine BkLe.cells ?_; repeat first | exact subS_nil | refine subS_cons rfl ?_))) | (refine sel_1 ?_ ?_; focus (first | exact BkLe.refl _ | (refine BkLe.cells ?_; repeat first | exact subS_nil | refine subS_cons rfl ?_))) | (refine sel_2 ?_ ?_; focus (first | exact BkLe.refl _ | (refine BkLe.cells ?_; repeat first | exact subS_nil | refine subS_cons rfl ?_))) | (refine sel_3 ?_ ?_; focus (first | exact BkLe.refl _ | (refine BkLe.cells ?_; repeat first | exact subS_nil | refine subS_cons rfl ?_))) | (refine sel_4 ?_ ?_; focus (first | exact BkLe.refl _ | (refine BkLe.cells ?_; repeat first | exact subS_nil | refine subS_cons rfl ?_))) | (refine sel_5 ?_ ?_; focus (first | exact BkLe.refl _ | (refine BkLe.cells ?_; repeat first | exact subS_nil | refine subS_cons rfl ?_))) | (refine sel_6 ?_ ?_; focus (first | exact BkLe.refl _ | (refine BkLe.cells ?_; repeat first | exact subS_nil | refine subS_cons rfl ?_))) | (refine sel_7 ?_ ?_; focus (first | exact BkLe.refl _ | (refine BkLe.cells ?_; repeat first | exact subS_nil | refine subS_cons rfl ?_))) | (refine sel_8 ?_ ?_; focus (first | exact BkLe.refl _ | (refine BkLe.cells ?_; repeat first | exact subS_nil | refine subS_cons rfl ?_)))); done | fail) :
    St X μ l' L' a w := St.sel (h := h) (hl := hl) (hL := hL)
theorem J6 {X : Ctx} {μ : Mem} {l l' : Slots} {L L' : List Bk} {a : Act} {w : World} (h : St X μ l L a w)
    (hl : SubS l' l := by first | (repeat first | exact subS_nil | refine subS_cons rfl ?_); done | fail)
    (hL : L'.Sublist L := by first | (repeat first | exact List.Sublist.refl _ | exact List.nil_sublist _ | refine List.Sublist.cons_cons _ ?_ | refine List.Sublist.cons _ ?_); done | fail) :
    St X μ l' L' a w := St.sub (h := h) (hl := hl) (hL := hL)
theorem D1 {v : Value} (i : Nat) (hg : GA P X μr Lr ops Q fuel (listed.setIfInBounds i true) μ ((d, v) :: l) L)
    (h : pstepAt P X.n ops l i = some (d, v) := by first | exact rfl | fail)
    (hk : drawOk ops listed i = true := by first | kernel_rfl | fail)
    (hQ : ∀ c a w, Q (.panic c) (Act.put a (some d) v) w → Q (.panic c) a w := by exact fun _ _ _ h => h) :
    GA P X μr Lr ops Q (fuel + 1) listed μ l L := ga_p (i := i) (h := h) (hk := hk) (hQ := hQ) (hg := hg)
theorem D3  (i : Nat) (h : GAop P X μr Lr ops Q fuel listed i μ l L)
    (hr : Region.ready .any ops listed = [i] := by first | kernel_rfl | fail) :
    GA P X μr Lr ops Q (fuel + 1) listed μ l L := ga_all1 (i := i) (hr := hr) (h := h)
theorem D5  (h : G P X ops (QA Q (fun a w => Sm μr Lr w ∧ wpAnyH P .any ops Q (Sm μr Lr) fuel (listed.setIfInBounds i true) a w)) [o] μ l L)
    (ho : nthO ops.toList i = some o := by first | exact rfl | fail) :
    GAop P X μr Lr ops Q fuel listed i μ l L := gaop_g (ho := ho) (h := h)
theorem D6 {i : Nat} (h : GA P X μr Lr ops Q fuel (listed.setIfInBounds i true) μ ((d, undef) :: l) L)
    (ho : nthO ops.toList i = some o := by first | exact rfl | fail)
    (hd : o.dst = some d := by first | exact rfl | fail)
    (hn : Nat.blt d X.n = true := by first | exact rfl | fail)
    (hw : wants ops l o = some false := by first | exact rfl | fail) :
    GAop P X μr Lr ops Q fuel listed i μ l L := gaop_skip (ho := ho) (hd := hd) (hn := hn) (hw := hw) (h := h)
theorem D7 {t : Nat} {b : Bool} (i : Nat) (hg : PIf b (GA P X μr Lr ops Q fuel listed μ ((t, .bool true) :: l) L) (GA P X μr Lr ops Q fuel listed μ ((t, .bool false) :: l) L))
    (ho : nthO ops.toList i = some o := by first | exact rfl | fail)
    (h : gtest ops l o = some (t, b) := by first | exact rfl | fail)
    (hb : NLit b := by (fail_if_success (with_reducible show NLit true)); (fail_if_success (with_reducible show NLit false)); exact nLit _) :
    GA P X μr Lr ops Q fuel listed μ l L := ga_if (i := i) (ho := ho) (h := h) (hb := hb) (hg := hg)
theorem D8  (h : GQ X Q .normal μ l L)
    (hr : Region.ready .any ops listed = [] := by first | kernel_rfl | fail) :
    GA P X μr Lr ops Q fuel listed μ l L := ga_done (hr := hr) (h := h)
theorem D9  (h : GA P X μr Lr ops Q fuel listed μ l L)
    (hle : MLe μr μ := by first | exact MLe.refl _ | assumption | (focus (repeat (first | exact MLe.refl _ | assumption | (apply MLe.trans; rotate_left; assumption)))); done | fail)
    (hLr : Lr.Sublist L := by first | (repeat first | exact List.Sublist.refl _ | exact List.nil_sublist _ | refine List.Sublist.cons_cons _ ?_ | refine List.Sublist.cons _ ?_); done | fail) :
    G P X ops (QA Q (fun a w => Sm μr Lr w ∧ wpAnyH P .any ops Q (Sm μr Lr) fuel listed a w)) [] μ l L := g_ga_nil (hle := hle) (hLr := hLr) (h := h)
theorem EN {A : Prop} (h : A := by first | ((with_reducible apply e_call0); kernel_rfl) | ((with_reducible apply e_call1); kernel_rfl; exact rfl) | ((with_reducible apply e_call2); kernel_rfl; exact rfl; exact rfl) | ((with_reducible apply e_call3); kernel_rfl; exact rfl; exact rfl; exact rfl) | ((with_reducible apply e_call4); kernel_rfl; exact rfl; exact rfl; exact rfl; exact rfl) | ((with_reducible apply e_call5); kernel_rfl; exact rfl; exact rfl; exact rfl; exact rfl; exact rfl) | ((with_reducible apply e_call6); kernel_rfl; exact rfl; exact rfl; exact rfl; exact rfl; exact rfl; exact rfl) | ((with_reducible apply e_callv0); exact rfl; (first | assumption | kernel_rfl)) | ((with_reducible apply e_callv1); exact rfl; (first | assumption | kernel_rfl); exact rfl) | ((with_reducible apply e_callv2); exact rfl; (first | assumption | kernel_rfl); exact rfl; exact rfl) | fail) : A := h
theorem C1  {f : FuncId} {vs : Array Value} {v : Value} (hd : pdst X.n ops l o = some d) (hr : Ent P μ l L o f vs) (hc : ∀ w μc, MOk μc w → Sees μc μ L → Calls P f vs w fun e w' => e = .returned v ∧ Below w.heap.size w w') (h : G P X ops Q rest μ ((d, v) :: l) L) :
    G P X ops Q (o :: rest) μ l L := by
  obtain ⟨h1, h2, h3⟩ := pdst_spec hd
  exact g_enter_s (hd := h1) (hn := h2) (hw := h3) (hr := hr) (hc := hc) (h := h)
theorem F1 (f : FuncId) {qs : Array Operand} {ts : Array TypeId} {vs : Array Value} {v : Value} (hd : pdst X.n ops l ⟨ds, .call { callee := .value (.func f), args := qs, argTypes := ts }, ty, pos, af, gd⟩ = some d) (hr : Ent P μ l L ⟨ds, .call { callee := .value (.func f), args := qs, argTypes := ts }, ty, pos, af, gd⟩ f vs) (hc : ∀ w μc, MOk μc w → Sees μc μ L → Calls P f vs w fun e w' => e = .returned v ∧ Below w.heap.size w w') (h : G P X ops Q rest μ ((d, v) :: l) L) :
    G P X ops Q (⟨ds, .call { callee := .value (.func f), args := qs, argTypes := ts }, ty, pos, af, gd⟩ :: rest) μ l L := by
  obtain ⟨h1, h2, h3⟩ := pdst_spec hd
  exact g_enter_s (hd := h1) (hn := h2) (hw := h3) (hr := hr) (hc := hc) (h := h)
theorem C2  {f : FuncId} {vs : Array Value} {Post : Mem → Value → Prop} (hd : pdst X.n ops l o = some d) (hr : Ent P μ l L o f vs) (hc : ∀ w, MOk μ w → Calls P f vs w fun e w' => ∃ v μ', e = .returned v ∧ Grow w w' μ μ' ∧ Post μ' v) (h : ∀ v μ', MLe μ μ' → Post μ' v → G P X ops Q rest μ' ((d, v) :: l) L) :
    G P X ops Q (o :: rest) μ l L := by
  obtain ⟨h1, h2, h3⟩ := pdst_spec hd
  exact g_enter_m (hd := h1) (hn := h2) (hw := h3) (hr := hr) (hc := hc) (h := h)
theorem F2 (f : FuncId) {qs : Array Operand} {ts : Array TypeId} {vs : Array Value} {Post : Mem → Value → Prop} (hd : pdst X.n ops l ⟨ds, .call { callee := .value (.func f), args := qs, argTypes := ts }, ty, pos, af, gd⟩ = some d) (hr : Ent P μ l L ⟨ds, .call { callee := .value (.func f), args := qs, argTypes := ts }, ty, pos, af, gd⟩ f vs) (hc : ∀ w, MOk μ w → Calls P f vs w fun e w' => ∃ v μ', e = .returned v ∧ Grow w w' μ μ' ∧ Post μ' v) (h : ∀ v μ', MLe μ μ' → Post μ' v → G P X ops Q rest μ' ((d, v) :: l) L) :
    G P X ops Q (⟨ds, .call { callee := .value (.func f), args := qs, argTypes := ts }, ty, pos, af, gd⟩ :: rest) μ l L := by
  obtain ⟨h1, h2, h3⟩ := pdst_spec hd
  exact g_enter_m (hd := h1) (hn := h2) (hw := h3) (hr := hr) (hc := hc) (h := h)
theorem F3 (f : FuncId) {qs : Array Operand} {ts : Array TypeId} {vs : Array Value} {e s n : Nat} {xs : List Value} (hd : pdst X.n ops l ⟨ds, .call { callee := .value (.func f), args := qs, argTypes := ts }, ty, pos, af, gd⟩ = some d) (hr : Ent P μ l L ⟨ds, .call { callee := .value (.func f), args := qs, argTypes := ts }, ty, pos, af, gd⟩ f vs) (hc : ∀ w μc, MOk μc w → Sees μc μ L → Calls P f vs w (RowPost w e s n xs)) (h : ∀ v, G P X ops Q rest μ ((d, v) :: l) (.inr ⟨v, e, s, n, xs⟩ :: L)) :
    G P X ops Q (⟨ds, .call { callee := .value (.func f), args := qs, argTypes := ts }, ty, pos, af, gd⟩ :: rest) μ l L := by
  obtain ⟨h1, h2, h3⟩ := pdst_spec hd
  exact g_enter_row (hd := h1) (hn := h2) (hw := h3) (hr := hr) (hc := hc) (h := h)
def FStep (A B : Prop) : Prop := A → B
def DStep (_ : Nat) (A B : Prop) : Prop := A → B
theorem s_gc_seq {x y : Code}  :
    FStep (GC P X x (Exit.then (y.wp P Q) Q) μ l L) (GC P X (.seq x y) Q μ l L) := fun h => gc_seq (h := h)
theorem s_gc_region {id : Nat} {ops : List Oper}  :
    FStep (G P X ops.toArray Q ops μ l L) (GC P X (.region id ops.toArray false) Q μ l L) := fun h => gc_region (h := h)
theorem s_g_nil {ops : Array Oper}  :
    FStep (GQ X Q .normal μ l L) (G P X ops Q [] μ l L) := fun h => g_nil (h := h)
theorem s_gq_then {y : Code}  :
    FStep (GC P X y Q μ l L) (GQ X (Exit.then (y.wp P Q) Q) .normal μ l L) := fun h => gq_then (h := h)
theorem s_gc_block {id : Nat} {c : Code}  :
    FStep (GC P X c (Exit.inBlock id Q) μ l L) (GC P X (.block id c) Q μ l L) := fun h => gc_block (h := h)
theorem s_gc_exit {id : Nat}  :
    FStep (GQ X Q (.exit id) μ l L) (GC P X (.exit id) Q μ l L) := fun h => gc_exit (h := h)
theorem s_gc_ret   :
    FStep (GQ X Q .ret μ l L) (GC P X .ret Q μ l L) := fun h => gc_ret (h := h)
theorem s_gc_skip   :
    FStep (GQ X Q .normal μ l L) (GC P X .skip Q μ l L) := fun h => gc_skip (h := h)
theorem s_gq_then_exit {K : Act → World → Prop} {i : Nat}  :
    FStep (GQ X Q (.exit i) μ l L) (GQ X (Exit.then K Q) (.exit i) μ l L) := fun h => gq_then_exit (h := h)
theorem s_gq_then_ret {K : Act → World → Prop}  :
    FStep (GQ X Q .ret μ l L) (GQ X (Exit.then K Q) .ret μ l L) := fun h => gq_then_ret (h := h)
theorem s_gq_block_same {i : Nat}  :
    FStep (GQ X Q .normal μ l L) (GQ X (Exit.inBlock i Q) (.exit i) μ l L) := fun h => gq_block_same (h := h)
theorem s_gq_block_normal {i : Nat}  :
    FStep (GQ X Q .normal μ l L) (GQ X (Exit.inBlock i Q) .normal μ l L) := fun h => gq_block_normal (h := h)
theorem s_gq_block_ret {i : Nat}  :
    FStep (GQ X Q .ret μ l L) (GQ X (Exit.inBlock i Q) .ret μ l L) := fun h => gq_block_ret (h := h)
theorem s_pif_t {p q : Prop}  :
    FStep (p) (PIf true p q) := fun h => pif_t (h := h)
theorem s_pif_f {p q : Prop}  :
    FStep (q) (PIf false p q) := fun h => pif_f (h := h)
theorem s_pif_not {b : Bool} {p q : Prop}  :
    FStep (PIf b q p) (PIf (!b) p q) := fun h => pif_not (h := h)
theorem s_g_p {v : Value} (h : pstep P X.n ops l o = some (d, v)) :
    FStep (G P X ops Q rest μ ((d, v) :: l) L) (G P X ops Q (o :: rest) μ l L) := fun hg => g_p (h := h) (hg := hg)
theorem s_gc_if {c : Operand} {x y : Code} {b : Bool} (hc : ev l c = some (.bool b)) :
    FStep (PIf b (GC P X x Q μ l L) (GC P X y Q μ l L)) (GC P X (.cond c x y) Q μ l L) := fun h => gc_if (hc := hc) (h := h)
theorem s_pif_decT {c p q : Prop} {_ : Decidable c} (hc : c) :
    FStep (p) (PIf (decide c) p q) := fun h => pif_decT (hc := hc) (h := h)
theorem s_pif_decF {c p q : Prop} {_ : Decidable c} (hc : ¬ c) :
    FStep (q) (PIf (decide c) p q) := fun h => pif_decF (hc := hc) (h := h)
theorem s_pif_tt {b : Bool} {p q : Prop} (hb : b = true) :
    FStep (p) (PIf b p q) := fun h => pif_tt (hb := hb) (h := h)
theorem s_pif_ff {b : Bool} {p q : Prop} (hb : b = false) :
    FStep (q) (PIf b p q) := fun h => pif_ff (hb := hb) (h := h)
theorem s_g_ar {r : Int} (h : arstep X.n ops l o = some (d, r)) (hb : -9223372036854775808 ≤ r ∧ r ≤ 9223372036854775807) :
    FStep (G P X ops Q rest μ ((d, .int .i64 r) :: l) L) (G P X ops Q (o :: rest) μ l L) := fun hg => g_ar (h := h) (hb := hb) (hg := hg)
theorem s_g_ld {t b off : Nat} {y : Blk} {v : Value} (hd : pdst X.n ops l o = some d) (h : ldop l o.op = some (t, b, off)) (hb : InB L b y) (hv : ldv P t y.cs off = some v) :
    FStep (G P X ops Q rest μ ((d, v) :: l) L) (G P X ops Q (o :: rest) μ l L) := fun hg => g_ld (hd := hd) (h := h) (hb := hb) (hv := hv) (hg := hg)
theorem s_g_v {v : Value} (hd : pdst X.n ops l o = some d) (hr : Val P μ l L o v) :
    FStep (G P X ops Q rest μ ((d, v) :: l) L) (G P X ops Q (o :: rest) μ l L) := fun h => g_v (hd := hd) (hr := hr) (h := h)
theorem s_g_st {b off : Nat} {vs : List Value} {L' : List Bk} (hd : pnone ops l o = true) (h : stop P l o.op = some (b, off, vs)) (h1 : Ones vs) (hu : UpB L b off vs L') :
    FStep (G P X ops Q rest μ l L') (G P X ops Q (o :: rest) μ l L) := fun hg => g_st (hd := hd) (h := h) (h1 := h1) (hu := hu) (hg := hg)
theorem s_gq_block_other {i j : Nat} (hij : Nat.beq j i = false) :
    FStep (GQ X Q (.exit j) μ l L) (GQ X (Exit.inBlock i Q) (.exit j) μ l L) := fun h => gq_block_other (hij := hij) (h := h)
theorem s_g_if {t : Nat} {b : Bool} (h : gtest ops l o = some (t, b)) (hb : NLit b) :
    FStep (PIf b (G P X ops Q (o :: rest) μ ((t, .bool true) :: l) L) (G P X ops Q (o :: rest) μ ((t, .bool false) :: l) L)) (G P X ops Q (o :: rest) μ l L) := fun hg => g_if (h := h) (hb := hb) (hg := hg)
theorem s_g_nw {t : TypeId} {cs : List Value} {n : Nat} (hd : pdst X.n ops l o = some d) (h : nwop P l o.op = some (t, cs)) (hn : nat16 cs.length some = some n) :
    FStep (∀ b, G P X ops Q rest μ ((d, .pointer (some ⟨b, 0, none⟩)) :: l) (.inl ⟨b, t, n, idx 0 cs⟩ :: L)) (G P X ops Q (o :: rest) μ l L) := fun hg => g_nw (hd := hd) (h := h) (hn := hn) (hg := hg)
theorem s_g_bs {t : TypeId} {cs : List Value} {n m : Nat} (hd : pdst X.n ops l o = some d) (h : bsop P l o.op = some (t, m, cs)) (hn : nat16 cs.length some = some n) :
    FStep (∀ b, G P X ops Q rest μ ((d, .slice (some ⟨b, 0, none⟩) m m) :: l) (.inl ⟨b, t, n, idx 0 cs⟩ :: L)) (G P X ops Q (o :: rest) μ l L) := fun hg => g_bs (hd := hd) (h := h) (hn := hn) (hg := hg)
theorem s2_dec {c p q : Prop} {_ : Decidable c} : FStep ((c → p) ∧ (¬c → q)) (PIf (decide c) p q) := fun h => pif_dec h.1 h.2
theorem s2_b {b : Bool} {p q : Prop} : FStep ((b = true → p) ∧ (b = false → q)) (PIf b p q) := fun h => pif_b h.1 h.2
theorem KO {A B : Prop} (h : A)
    (f : FStep A B := by first | ((with_reducible (first | apply s_gc_seq | apply s_gc_region | apply s_g_nil | apply s_gq_then | apply s_gc_block | apply s_gc_exit | apply s_gc_ret | apply s_gc_skip | apply s_gq_then_exit | apply s_gq_then_ret | apply s_gq_block_same | apply s_gq_block_normal | apply s_gq_block_ret | apply s_pif_t | apply s_pif_f | apply s_pif_not))) | ((with_reducible apply s_g_p); exact rfl) | ((with_reducible apply s_gc_if); exact rfl) | ((with_reducible apply s_pif_decT); (first | omega | with_reducible assumption | with_reducible rfl)) | ((with_reducible apply s_pif_decF); (first | omega | with_reducible assumption | with_reducible exact ne_self_f _)) | ((with_reducible apply s_pif_tt); exact rfl) | ((with_reducible apply s_pif_ff); exact rfl) | fail) : B := f h
theorem KK {A B : Prop} (h : A)
    (f : FStep A B := by first | ((with_reducible (first | apply s_gc_seq | apply s_gc_region | apply s_g_nil | apply s_gq_then | apply s_gc_block | apply s_gc_exit | apply s_gc_ret | apply s_gc_skip | apply s_gq_then_exit | apply s_gq_then_ret | apply s_gq_block_same | apply s_gq_block_normal | apply s_gq_block_ret | apply s_pif_t | apply s_pif_f | apply s_pif_not))) | ((with_reducible apply s_g_p); exact rfl) | ((with_reducible apply s_gc_if); exact rfl) | ((with_reducible apply s_pif_decT); (first | omega | with_reducible assumption | with_reducible rfl)) | ((with_reducible apply s_pif_decF); (first | omega | with_reducible assumption | with_reducible exact ne_self_f _)) | ((with_reducible apply s_pif_tt); exact rfl) | ((with_reducible apply s_pif_ff); exact rfl) | ((with_reducible apply s_g_ar); exact rfl; omega) | ((with_reducible apply s_g_ld); exact rfl; exact rfl; (repeat first | with_reducible exact inb_hd | with_reducible apply inb_tl); exact rfl) | ((with_reducible apply s_g_v); exact rfl; (first | ((with_reducible apply v_field_n); exact rfl; exact rfl) | ((with_reducible apply v_index_n); exact rfl; exact rfl; exact rfl; exact rfl; omega) | ((with_reducible apply v_ld); exact rfl; (repeat first | with_reducible exact inb_hd | with_reducible apply inb_tl); exact rfl) | ((with_reducible apply v_sindex_n); exact rfl; exact rfl; exact rfl; omega) | ((with_reducible apply v_fieldv); exact rfl; exact rfl) | ((with_reducible apply v_neg_i); exact rfl; omega) | ((with_reducible apply v_max2); exact rfl; exact rfl) | ((with_reducible apply v_min2); exact rfl; exact rfl) | ((with_reducible apply v_quo_i); exact rfl; exact rfl; (first | omega | with_reducible assumption); (first | omega | with_reducible assumption)) | ((with_reducible apply v_rem); exact rfl; exact rfl; (first | omega | with_reducible assumption)) | ((with_reducible apply v_conv_int); exact rfl; exact rfl; exact rfl; omega) | ((with_reducible apply arB_sound); exact rfl; omega) | ((with_reducible apply v_aggeql); exact rfl; exact rfl; exact rfl; kernel_rfl; kernel_rfl; kernel_rfl; kernel_rfl) | ((with_reducible apply v_aggneq); exact rfl; exact rfl; exact rfl; kernel_rfl; kernel_rfl; kernel_rfl; kernel_rfl) | ((with_reducible apply v_len_row 0); exact rfl; exact rfl; exact rfl) | ((with_reducible apply v_len_row 1); exact rfl; exact rfl; exact rfl) | ((with_reducible apply v_len_row 2); exact rfl; exact rfl; exact rfl) | ((with_reducible apply v_len_row 3); exact rfl; exact rfl; exact rfl) | ((with_reducible apply v_slice_arr); exact rfl; exact rfl; exact rfl))) | ((with_reducible apply s_g_st); exact rfl; exact rfl; (repeat first | with_reducible exact ones_nil | ((with_reducible apply ones_cons); (first | exact rfl | assumption))); (repeat first | with_reducible apply upb_hd | with_reducible apply upb_tl); exact rfl; (repeat first | with_reducible exact pc_nil | with_reducible apply pc_cons)) | ((with_reducible apply s_gq_block_other); exact rfl) | fail) : B := f h
theorem KI {A B : Prop} (h : A)
    (f : FStep A B := by first | ((with_reducible apply s_g_ar); exact rfl; omega) | ((with_reducible apply s_g_ld); exact rfl; exact rfl; (repeat first | with_reducible exact inb_hd | with_reducible apply inb_tl); exact rfl) | ((with_reducible apply s_g_v); exact rfl; (first | ((with_reducible apply v_field_n); exact rfl; exact rfl) | ((with_reducible apply v_index_n); exact rfl; exact rfl; exact rfl; exact rfl; omega) | ((with_reducible apply v_ld); exact rfl; (repeat first | with_reducible exact inb_hd | with_reducible apply inb_tl); exact rfl) | ((with_reducible apply v_sindex_n); exact rfl; exact rfl; exact rfl; omega) | ((with_reducible apply v_fieldv); exact rfl; exact rfl) | ((with_reducible apply v_neg_i); exact rfl; omega) | ((with_reducible apply v_max2); exact rfl; exact rfl) | ((with_reducible apply v_min2); exact rfl; exact rfl) | ((with_reducible apply v_quo_i); exact rfl; exact rfl; (first | omega | with_reducible assumption); (first | omega | with_reducible assumption)) | ((with_reducible apply v_rem); exact rfl; exact rfl; (first | omega | with_reducible assumption)) | ((with_reducible apply v_conv_int); exact rfl; exact rfl; exact rfl; omega) | ((with_reducible apply arB_sound); exact rfl; omega) | ((with_reducible apply v_aggeql); exact rfl; exact rfl; exact rfl; kernel_rfl; kernel_rfl; kernel_rfl; kernel_rfl) | ((with_reducible apply v_aggneq); exact rfl; exact rfl; exact rfl; kernel_rfl; kernel_rfl; kernel_rfl; kernel_rfl) | ((with_reducible apply v_len_row 0); exact rfl; exact rfl; exact rfl) | ((with_reducible apply v_len_row 1); exact rfl; exact rfl; exact rfl) | ((with_reducible apply v_len_row 2); exact rfl; exact rfl; exact rfl) | ((with_reducible apply v_len_row 3); exact rfl; exact rfl; exact rfl) | ((with_reducible apply v_slice_arr); exact rfl; exact rfl; exact rfl))) | ((with_reducible apply s_g_st); exact rfl; exact rfl; (repeat first | with_reducible exact ones_nil | ((with_reducible apply ones_cons); (first | exact rfl | assumption))); (repeat first | with_reducible apply upb_hd | with_reducible apply upb_tl); exact rfl; (repeat first | with_reducible exact pc_nil | with_reducible apply pc_cons)) | ((with_reducible apply s_gq_block_other); exact rfl) | fail) : B := f h
theorem KG {A B : Prop} (h : A)
    (f : FStep A B := by (with_reducible apply s_g_if); exact rfl; (fail_if_success (with_reducible show NLit true)); (fail_if_success (with_reducible show NLit false)); exact nLit _) : B := f h
theorem KB {A B C : Prop} (h1 : A) (h2 : B)
    (f : FStep (A ∧ B) C := by with_reducible (first | exact s2_dec | exact s2_b | fail)) : C := f ⟨h1, h2⟩
theorem NB {A : Nat → Prop} {B : Prop} (h : ∀ b, A b)
    (f : FStep (∀ b, A b) B := by first | ((with_reducible apply s_g_nw); exact rfl; exact rfl; exact rfl) | ((with_reducible apply s_g_bs); exact rfl; exact rfl; exact rfl) | fail) : B := f h
def VStep (_ : Nat) (B : Prop) : Prop := B
theorem E1 {i : Nat} {v : Value} (h : pstepAt P X.n ops l i = some (d, v)) (hk : drawOk ops listed i = true) (hQ : ∀ c a w, Q (.panic c) (Act.put a (some d) v) w → Q (.panic c) a w) :
    DStep i (GA P X μr Lr ops Q fuel (listed.setIfInBounds i true) μ ((d, v) :: l) L) (GA P X μr Lr ops Q (fuel + 1) listed μ l L) := fun hg => ga_p (i := i) (h := h) (hk := hk) (hQ := hQ) (hg := hg)
theorem E2 {i : Nat} {v : Value} (h : pdstAt X.n ops l i = some (d, o)) (hk : drawOk ops listed i = true) (hQ : ∀ c a w, Q (.panic c) (Act.put a (some d) v) w → Q (.panic c) a w) (hv : Val P μr l Lr o v) :
    DStep i (GA P X μr Lr ops Q fuel (listed.setIfInBounds i true) μ ((d, v) :: l) L) (GA P X μr Lr ops Q (fuel + 1) listed μ l L) := fun hg => ga_v (i := i) (h := h) (hk := hk) (hQ := hQ) (hv := hv) (hg := hg)
theorem E3 {i : Nat} {v : Value} (hr : Region.ready .any ops listed = [i]) (ho : nthO ops.toList i = some o) (hd : o.dst = some d) (hn : Nat.blt d X.n = true) (hw : wants ops l o = some true) (hv : Val P μ l L o v) :
    DStep i (GA P X μr Lr ops Q fuel (listed.setIfInBounds i true) μ ((d, v) :: l) L) (GA P X μr Lr ops Q (fuel + 1) listed μ l L) := fun h => ga_all1 i hr (gaop_val ho hd hn hw hv h)
theorem DD (i : Nat) {A B : Prop} (h : A)
    (f : DStep i A B := by first | ((with_reducible apply E1); exact rfl; kernel_rfl; (exact fun _ _ _ h => h)) | ((with_reducible apply E2); exact rfl; kernel_rfl; (exact fun _ _ _ h => h); (first | ((with_reducible apply pv_sound); exact rfl) | ((with_reducible apply v_field_n); exact rfl; exact rfl) | ((with_reducible apply v_index_n); exact rfl; exact rfl; exact rfl; exact rfl; omega) | ((with_reducible apply v_ld); exact rfl; (repeat first | with_reducible exact inb_hd | with_reducible apply inb_tl); exact rfl) | ((with_reducible apply v_sindex_n); exact rfl; exact rfl; exact rfl; omega) | ((with_reducible apply v_fieldv); exact rfl; exact rfl) | ((with_reducible apply v_neg_i); exact rfl; omega) | ((with_reducible apply v_max2); exact rfl; exact rfl) | ((with_reducible apply v_min2); exact rfl; exact rfl) | ((with_reducible apply v_quo_i); exact rfl; exact rfl; (first | omega | with_reducible assumption); (first | omega | with_reducible assumption)) | ((with_reducible apply v_rem); exact rfl; exact rfl; (first | omega | with_reducible assumption)) | ((with_reducible apply v_conv_int); exact rfl; exact rfl; exact rfl; omega) | ((with_reducible apply arB_sound); exact rfl; omega) | ((with_reducible apply v_aggeql); exact rfl; exact rfl; exact rfl; kernel_rfl; kernel_rfl; kernel_rfl; kernel_rfl) | ((with_reducible apply v_aggneq); exact rfl; exact rfl; exact rfl; kernel_rfl; kernel_rfl; kernel_rfl; kernel_rfl) | ((with_reducible apply v_len_row 0); exact rfl; exact rfl; exact rfl) | ((with_reducible apply v_len_row 1); exact rfl; exact rfl; exact rfl) | ((with_reducible apply v_len_row 2); exact rfl; exact rfl; exact rfl) | ((with_reducible apply v_len_row 3); exact rfl; exact rfl; exact rfl) | ((with_reducible apply v_slice_arr); exact rfl; exact rfl; exact rfl) | ((with_reducible apply arI_sound); exact rfl; omega))) | ((with_reducible apply E3); kernel_rfl; exact rfl; exact rfl; exact rfl; exact rfl; (first | ((with_reducible apply pv_sound); exact rfl) | ((with_reducible apply v_field_n); exact rfl; exact rfl) | ((with_reducible apply v_index_n); exact rfl; exact rfl; exact rfl; exact rfl; omega) | ((with_reducible apply v_ld); exact rfl; (repeat first | with_reducible exact inb_hd | with_reducible apply inb_tl); exact rfl) | ((with_reducible apply v_sindex_n); exact rfl; exact rfl; exact rfl; omega) | ((with_reducible apply v_fieldv); exact rfl; exact rfl) | ((with_reducible apply v_neg_i); exact rfl; omega) | ((with_reducible apply v_max2); exact rfl; exact rfl) | ((with_reducible apply v_min2); exact rfl; exact rfl) | ((with_reducible apply v_quo_i); exact rfl; exact rfl; (first | omega | with_reducible assumption); (first | omega | with_reducible assumption)) | ((with_reducible apply v_rem); exact rfl; exact rfl; (first | omega | with_reducible assumption)) | ((with_reducible apply v_conv_int); exact rfl; exact rfl; exact rfl; omega) | ((with_reducible apply arB_sound); exact rfl; omega) | ((with_reducible apply v_aggeql); exact rfl; exact rfl; exact rfl; kernel_rfl; kernel_rfl; kernel_rfl; kernel_rfl) | ((with_reducible apply v_aggneq); exact rfl; exact rfl; exact rfl; kernel_rfl; kernel_rfl; kernel_rfl; kernel_rfl) | ((with_reducible apply v_len_row 0); exact rfl; exact rfl; exact rfl) | ((with_reducible apply v_len_row 1); exact rfl; exact rfl; exact rfl) | ((with_reducible apply v_len_row 2); exact rfl; exact rfl; exact rfl) | ((with_reducible apply v_len_row 3); exact rfl; exact rfl; exact rfl) | ((with_reducible apply v_slice_arr); exact rfl; exact rfl; exact rfl) | ((with_reducible apply arI_sound); exact rfl; omega))) | fail) : B := f h
theorem X1 {k : Nat} {p q : Operand} {t e : TypeId} {A : Addr} {len cap n : Nat} {i : Int} (ht : P.underlying t = some (.slice e)) (hs : sizeT P e = some n) (hx0 : ev l p = some (.slice (some A) len cap)) (hx1 : ev l q = some (.int .i64 i)) (hi : i = (k : Int)) (hk : k < len) :
    VStep k (Val P μ l L ⟨ds, .indexAddr t p q, ty, pos, af, gd⟩ (.pointer (some (A.add (k * n))))) := v_index (k := k) (ht := ht) (hs := hs) (hx0 := hx0) (hx1 := hx1) (hi := hi) (hk := hk)
theorem X2 {k : Nat} {p q : Operand} {t : TypeId} {s : ByteArray} {i : Int} (ht : P.underlying t = some .string) (hx0 : ev l p = some (.string s)) (hx1 : ev l q = some (.int .i64 i)) (hi : i = (k : Int)) (hk : k < s.size) :
    VStep k (Val P μ l L ⟨ds, .index t p q, ty, pos, af, gd⟩ (.int .u8 (bAt s k))) := v_sindex (k := k) (ht := ht) (hx0 := hx0) (hx1 := hx1) (hi := hi) (hk := hk)
theorem U1 (k : Nat) {B : Prop} (f : VStep k B := by (with_reducible apply X1); exact rfl; exact rfl; exact rfl; exact rfl; (first | exact rfl | omega); omega) : B := f
theorem U2 (k : Nat) {B : Prop} (f : VStep k B := by (with_reducible apply X2); exact rfl; exact rfl; exact rfl; (first | exact rfl | omega); omega) : B := f
theorem U3 {M B : Prop} (hm : M) (f : M → B := by intro h; (with_reducible apply v_load_sh); exact rfl; exact rfl; exact h) : B := f hm
theorem U4 {M B : Prop} (hm : M) (f : M → B := by intro h; first | ((with_reducible apply v_load_shs); exact rfl; exact rfl; exact rfl; exact h; exact rfl) | ((with_reducible apply v_ld_sh); exact rfl; exact rfl; exact rfl; exact h; exact rfl) | fail) : B := f hm
theorem PU {l l' : Slots} (h : SubS l' l := by first | (repeat first | exact subS_nil | refine subS_cons rfl ?_); done | fail) : SubS l' l := h
theorem PS {L L' : List Bk} (h : Sel L' L := by first | (repeat first | exact Sel.nil _ | (refine sel_0 ?_ ?_; focus (first | exact BkLe.refl _ | (refine BkLe.cells ?_; repeat first | exact subS_nil | refine subS_cons rfl ?_))) | (refine sel_1 ?_ ?_; focus (first | exact BkLe.refl _ | (refine BkLe.cells ?_; repeat first | exact subS_nil | refine subS_cons rfl ?_))) | (refine sel_2 ?_ ?_; focus (first | exact BkLe.refl _ | (refine BkLe.cells ?_; repeat first | exact subS_nil | refine subS_cons rfl ?_))) | (refine sel_3 ?_ ?_; focus (first | exact BkLe.refl _ | (refine BkLe.cells ?_; repeat first | exact subS_nil | refine subS_cons rfl ?_))) | (refine sel_4 ?_ ?_; focus (first | exact BkLe.refl _ | (refine BkLe.cells ?_; repeat first | exact subS_nil | refine subS_cons rfl ?_))) | (refine sel_5 ?_ ?_; focus (first | exact BkLe.refl _ | (refine BkLe.cells ?_; repeat first | exact subS_nil | refine subS_cons rfl ?_))) | (refine sel_6 ?_ ?_; focus (first | exact BkLe.refl _ | (refine BkLe.cells ?_; repeat first | exact subS_nil | refine subS_cons rfl ?_))) | (refine sel_7 ?_ ?_; focus (first | exact BkLe.refl _ | (refine BkLe.cells ?_; repeat first | exact subS_nil | refine subS_cons rfl ?_))) | (refine sel_8 ?_ ?_; focus (first | exact BkLe.refl _ | (refine BkLe.cells ?_; repeat first | exact subS_nil | refine subS_cons rfl ?_)))); done | fail) : Sel L' L := h
theorem CF (f : FuncId) {qs : Array Operand} {ts : Array TypeId} (h : G P X ops Q (⟨ds, .call { callee := .value (.func f), args := qs, argTypes := ts }, ty, pos, af, gd⟩ :: rest) μ l L) : G P X ops Q (⟨ds, .call { callee := .value (.func f), args := qs, argTypes := ts }, ty, pos, af, gd⟩ :: rest) μ l L := h
theorem DV {v : Value}
    (k : Nat)
    (h1 : pdstAt X.n ops l k = some (d, o) := by first | exact rfl | fail)
    (h2 : drawOk ops listed k = true := by first | kernel_rfl | fail)
    (h3 : ∀ c a w, Q (.panic c) (Act.put a (some d) v) w → Q (.panic c) a w := by exact fun _ _ _ h => h)
    (b : Val P μr l Lr o v)
    (c : GA P X μr Lr ops Q fuel (listed.setIfInBounds k true) μ ((d, v) :: l) L) :
    GA P X μr Lr ops Q (fuel + 1) listed μ l L := ga_v (i := k) (h := h1) (hk := h2) (hQ := h3) (hv := b) (hg := c)
theorem DW {i : Nat} {v : Value}
    (ho : nthO ops.toList i = some o := by first | exact rfl | fail)
    (hd : o.dst = some d := by first | exact rfl | fail)
    (hn : Nat.blt d X.n = true := by first | exact rfl | fail)
    (hw : wants ops l o = some true := by first | exact rfl | fail)
    (b : Val P μ l L o v)
    (c : GA P X μr Lr ops Q fuel (listed.setIfInBounds i true) μ ((d, v) :: l) L) :
    GAop P X μr Lr ops Q fuel listed i μ l L := gaop_val (ho := ho) (hd := hd) (hn := hn) (hw := hw) (hv := b) (h := c)
theorem KV {v : Value}
    (hd : pdst X.n ops l o = some d := by first | exact rfl | fail)
    (b : Val P μ l L o v)
    (c : G P X ops Q rest μ ((d, v) :: l) L) :
    G P X ops Q (o :: rest) μ l L := g_v (hd := hd) (hr := b) (h := c)
end
end
section
open Go.RowKit
inductive Qu (t : TypeId) : Value → Bk → List Value → Prop
  | nil : Qu t (.slice none 0 0) (.inr ⟨.slice none 0 0, t, 1, 0, []⟩) []
  | at (g off k sz : Nat) (xs : List Value) (h : xs.length ≤ k) (hs : off + k ≤ sz) (hm : sz ≤ maxLen) : Qu t (.slice (some ⟨g, off, none⟩) xs.length k) (.inl ⟨g, t, sz, idx off xs⟩) xs
theorem Qu.one {t : TypeId} {v : Value} {x : Bk} {xs : List Value} (h : Qu t v x xs) : v.oneCell' = true := by cases h <;> rfl
theorem Qu.form {t : TypeId} {v : Value} {x : Bk} {xs : List Value} (h : Qu t v x xs) : ∃ A c, v = .slice A xs.length c ∧ xs.length ≤ c := by
  cases h with
  | nil => exact ⟨none, 0, rfl, Nat.le_refl _⟩
  | «at» g off k sz _ h hs hm => exact ⟨_, k, rfl, h⟩
section
variable {P : Program} {X : Ctx} {ops : Array Oper} {Q : Exit → Act → World → Prop} {rest : List Oper} {μ : Mem} {l : Slots} {L : List Bk} {a : Act} {w : World} {o : Oper} {d : Nat}
variable {ty : TypeId} {pos : String} {af : Array Edge} {gd : Option (Nat × Bool)} {ds : Option Nat}
theorem subS_idx_drop (off : Nat) (xs : List Value) : SubS (idx (off + 1) (xs.drop 1)) (idx off xs) := fun t v h => by
  obtain ⟨h1, h2⟩ := lk_idx _ _ _ _ h
  rw [List.getElem?_drop, show 1 + (t - (off + 1)) = t - off by omega] at h2
  have := lk_idx_of xs off (t - off) v h2
  rwa [show off + (t - off) = t by omega] at this
theorem sel_rfl : ∀ (L : List Bk), Sel L L
  | [] => Sel.nil _
  | x :: r => sel_0 (.refl x) (sel_rfl r)
theorem sel_updB {x y : Bk} (h : BkLe y x) : ∀ {L : List Bk} {i : Nat}, nthB L i = some x → Sel (updB L i y) L
  | [], _, e => by simp [nthB] at e
  | z :: r, 0, e => by
    simp [nthB] at e
    subst e
    exact sel_0 h (sel_rfl r)
  | z :: r, i + 1, e => sel_0 (.refl z) (sel_updB h (by simpa [nthB] using e))
theorem add_z (A : Addr) : A.add 0 = A := by simp [Addr.add]
theorem run_append_off {t e : TypeId} {i : TypeInfo} (ht : P.underlying t = some (.slice e)) (hi : P.info? e = some i) (h1 : i.size = 1) (g off n k : Nat) (cur : Array Value) (hg : w.heap[g]? = some (.cells cur e (0, 0))) (ad : Addr) (c : Nat) (u : Value) (hu : w.cell? ad = some u) (hone : u.oneCell' = true) (hroom : n + 1 ≤ k) (hfit : off + n + 1 ≤ cur.size) :
    (Builtin.append_ #[t, t] ty #[.slice (some ⟨g, off, none⟩) n k, .slice (some ad) 1 c]).run P w = .ok (.slice (some ⟨g, off, none⟩) (n + 1) k) (w.setRow g (cur.toList.take (off + n) ++ [u] ++ cur.toList.drop (off + n + 1)).toArray) := by
  have hz : ∀ j v, [u][j]? = some v → w.cell? (ad.add j) = some v := fun j v hj => by
    cases j with
    | zero => simp at hj; subst hj; rw [add_z]; exact hu
    | succ j => simp at hj
  have hf := run_firstCells_some (P := P) w i.size 1 ad 1 c [u] (by simp [h1]) hz
  have hst := run_storeCells_at P g (off + n * i.size) e [u] 0 cur w hg (by simp [h1]; omega) (by simpa using hone)
  simp only [Nat.add_zero, List.length_singleton] at hst
  rw [h1, Nat.mul_one] at hst
  rw [h1] at hf
  simp [Builtin.append_, run_underlying ht, sizeOf, typeInfo, hi, Builtin.lenOf, hroom, hf, Addr.add_lit, h1, hst]
theorem getElem_app3 {l : List Value} {m : Nat} {u : Value} (h : m < l.length) (j : Nat) : (l.take m ++ [u] ++ l.drop (m + 1))[j]? = if j = m then some u else l[j]? := by
  rw [List.append_assoc]
  by_cases hj : j < m
  · rw [List.getElem?_append_left (by simp; omega), List.getElem?_take, if_pos hj, if_neg (by omega)]
  · rw [List.getElem?_append_right (by simp; omega)]
    have hl : (l.take m).length = m := by simp; omega
    rw [hl]
    by_cases he : j = m
    · subst he; simp
    · rw [if_neg he, List.getElem?_append_right (by simp; omega), List.getElem?_drop]
      congr 1
      simp
      omega
theorem g_quapp {p q : Operand} {t e bytes : TypeId} {z v u : Value} {x : Bk} {xs : List Value} (i : Nat) (hn : Nat.blt d X.n = true) (hw : wants ops l ⟨some d, .call { callee := .builtin .append, args := #[p, q], argTypes := #[t, t] }, ty, pos, af, gd⟩ = some true)
    (ht : P.underlying t = some (.slice e)) (hs : sizeT P e = some 1) (hz : zeroT P e = some z) (hzs : z.cells.toList.length = 1) (hby : bytesT P e = some bytes) (hp : ev l p = some v) (hi : nthB L i = some x) (hQ : Qu e v x xs)
    (hsrc : Src μ l L q 1 [u]) (h1 : u.oneCell' = true) (hroom : (xs.length + 1) * bytes ≤ 140737488355328) (hlen : xs.length + 1 ≤ 140737488355328)
    (h : ∀ v' x', Qu e v' x' (xs ++ [u]) → G P X ops Q rest μ ((d, v') :: l) (updB L i x')) :
    G P X ops Q (⟨some d, .call { callee := .builtin .append, args := #[p, q], argTypes := #[t, t] }, ty, pos, af, gd⟩ :: rest) μ l L :=
  g_wp hw fun a w hs' => by
    obtain ⟨A, c, hq, h0, hc⟩ := hsrc
    have hp' := hs'.eval hp
    have hs0 := hs
    unfold sizeT at hs
    have hz0 := hz
    have hby0 := hby
    unfold bytesT at hby
    cases hinf : P.info? e with
    | none => simp [hinf] at hs
    | some inf =>
      simp [hinf, nat16_eq] at hs
      simp [hinf, natB_eq] at hby
      rcases A with _ | ad
      · exact absurd (h0 rfl).1 (by omega)
      have hcell : w.cell? ad = some u := by
        have := hc ad rfl a w hs'.rd 0 u rfl
        rwa [add_z] at this
      have grown : ∀ (w' : World) (v' : Value), w'.ownsRow w.heap.size e 1 v' (xs.length + 1) (xs ++ [u]) → w.grownBy w' none → (Builtin.append_ #[t, t] ty #[v, .slice (some ad) 1 c]).run P w = .ok v' w' → (⟨some d, .call { callee := .builtin .append, args := #[p, q], argTypes := #[t, t] }, ty, pos, af, gd⟩ : Oper).wp P a w (wpList P ops Q rest) Q := by
        intro w' v' hown hg hr
        unfold Oper.wp
        rw [run_append_call hp' (hs'.eval hq) hr, Oper.upon_value]
        rcases hown.2 with ⟨_, h3⟩ | ⟨g, cap, cur, rfl, hb, hh, hnc, hcm, hcs, htk⟩
        · omega
        · have hQ' : Qu e (.slice (some ⟨g, 0, none⟩) (xs.length + 1) cap) (.inl ⟨g, e, cap, idx 0 (xs ++ [u])⟩) (xs ++ [u]) := by
            have := Qu.at (t := e) g 0 cap cap (xs ++ [u]) (by simpa using hnc) (by omega) hcm
            simpa using this
          refine h _ _ hQ' _ _ ((hs'.upd hi hg.os hg.tape hg.output hg.size (fun b hb2 _ => hg.block b hb2 (by simp)) (y := .inl ⟨g, e, cap, idx 0 (xs ++ [u])⟩) ⟨cur, hh, by simpa using hcs, fun j v hj => ?_⟩ (fun b hb2 => ?_)).put hn _)
          · obtain ⟨_, h5⟩ := lk_idx _ _ _ _ hj
            rw [Nat.sub_zero, ← htk] at h5
            rw [List.getElem?_take] at h5
            split at h5
            · simpa using h5
            · cases h5
          · cases hb2
            exact .inr hb
      cases hQ with
      | nil =>
        obtain ⟨v', w', r1, r2, r3, r4⟩ := run_append_row (P := P) (ty := ty) (w := w) (t := t) ht hs0 hz0 hzs hby0 (by omega) (v := .slice none 0 0) (n := 0) (xs := []) ⟨by simp, .inl ⟨rfl, rfl⟩⟩ (m := 1) (c := c) (news := [u]) rfl h0 (fun ad e => hc ad e a w hs'.rd) (by simpa using h1) (by simpa using hroom) (by simp)
        refine grown w' v' ⟨r2.1, ?_⟩ r3 r1
        rcases r2.2 with h3 | ⟨g, cap, cur, h3, h4, h5⟩
        · exact .inl h3
        · refine .inr ⟨g, cap, cur, h3, ?_, h5⟩
          rcases r4 with r4 | r4
          · rw [h3] at r4; simp [Value.ownBlock] at r4
          · rw [h3] at r4; simp [Value.ownBlock] at r4; omega
      | «at» g off k sz _ hk hsz hm =>
        obtain ⟨arr, hh, hasz, hlk⟩ := hs'.own _ (nthB_mem hi)
        dsimp only at hh hasz hlk
        by_cases hroom2 : xs.length + 1 ≤ k
        · have hr := run_append_off (P := P) (w := w) (ty := ty) ht hinf hs g off xs.length k arr hh ad c u hcell h1 hroom2 (by omega)
          unfold Oper.wp
          rw [run_append_call hp' (hs'.eval hq) hr, Oper.upon_value]
          have hQ' : Qu e (.slice (some ⟨g, off, none⟩) (xs.length + 1) k) (.inl ⟨g, e, sz, idx off (xs ++ [u])⟩) (xs ++ [u]) := by
            have := Qu.at (t := e) g off k sz (xs ++ [u]) (by simpa using hroom2) hsz hm
            simpa using this
          refine h _ _ hQ' _ _ ((hs'.setRow (x := ⟨g, e, sz, idx off xs⟩) hi ?_ ?_).put hn _)
          · simp [hasz]; omega
          · intro j v hj
            obtain ⟨h3, h4⟩ := lk_idx _ _ _ _ hj
            rw [List.getElem?_toArray, getElem_app3 (by simp [hasz]; omega)]
            split
            · rename_i he
              rw [he, show off + xs.length - off = xs.length by omega] at h4
              simpa using h4
            · rename_i he
              have h5 : j - off < xs.length := by
                have := (List.getElem?_eq_some_iff.1 h4).1
                simp at this
                omega
              rw [List.getElem?_append_left h5] at h4
              have h6 := lk_idx_of xs off (j - off) v h4
              rw [show off + (j - off) = j by omega] at h6
              have := hlk j v h6
              simpa using this
        · have holds : ∀ (j : Nat) (y : Value), xs[j]? = some y → w.cell? ((⟨g, off, none⟩ : Addr).add j) = some y := fun j y hj => by
            rw [Addr.add_lit]
            exact hs'.rd.cell (nthB_mem hi) (lk_idx_of xs off j y hj)
          obtain ⟨v', w', r1, r2, r3⟩ := run_append_arg_grows (P := P) w t ty e inf z 1 bytes ht hinf (by unfold zeroT at hz0; simpa [hinf] using hz0) hs hby (by simpa using hzs) (by omega) ⟨g, off, none⟩ xs.length k xs (by simp) holds ad 1 c [u] rfl (fun j v hj => hc ad rfl a w hs'.rd j v hj) (by omega) (by simp only [maxLen]; omega) hroom
          exact grown w' v' r2 r3 r1
theorem AQ {p q : Operand} {t e bytes : TypeId} {z v u : Value} {x : Bk} {xs : List Value} (i : Nat) (hn : Nat.blt d X.n = true := by exact rfl) (hw : wants ops l ⟨some d, .call { callee := .builtin .append, args := #[p, q], argTypes := #[t, t] }, ty, pos, af, gd⟩ = some true := by exact rfl)
    (ht : P.underlying t = some (.slice e) := by exact rfl) (hs : sizeT P e = some 1 := by exact rfl) (hz : zeroT P e = some z := by exact rfl) (hzs : z.cells.toList.length = 1 := by exact rfl) (hby : bytesT P e = some bytes := by exact rfl) (hp : ev l p = some v := by exact rfl) (hi : nthB L i = some x := by exact rfl) (hQ : Qu e v x xs)
    (S : Src μ l L q 1 [u] := by (with_reducible apply src_in); exact rfl; (repeat first | with_reducible exact inb_hd | with_reducible apply inb_tl); exact rfl) (O : u.oneCell' = true := by exact rfl) (B : xs.length ≤ 1000000) (hb : Nat.ble bytes 1000 = true := by exact rfl)
    (k : ∀ A c x', Qu e (.slice A (xs ++ [u]).length c) x' (xs ++ [u]) → G P X ops Q rest μ ((d, .slice A (xs ++ [u]).length c) :: l) (updB L i x')) :
    G P X ops Q (⟨some d, .call { callee := .builtin .append, args := #[p, q], argTypes := #[t, t] }, ty, pos, af, gd⟩ :: rest) μ l L :=
  g_quapp i hn hw ht hs hz hzs hby hp hi hQ S O (by
    have h1 : bytes ≤ 1000 := by simpa using hb
    have h2 := Nat.mul_le_mul (show xs.length + 1 ≤ 1000001 by omega) h1
    omega) (by omega) fun v' x' hQ2 => by
    obtain ⟨A, c, rfl, hl⟩ := hQ2.form
    exact k A c x' hQ2
end
end
section
open Go.RowKit
section
variable {t : TypeId} {v u : Value} {x : Bk} {xs : List Value}
theorem Qu.pop (h : Qu t v x (u :: xs)) : ∃ A c x', BkLe x' x ∧ Qu t (.slice A xs.length c) x' xs ∧ ∀ {P : Program} {μ : Mem} {l : Slots} {L : List Bk} {ds : Option Nat} {ty : TypeId} {pos : String} {af : Array Edge} {gd : Option (Nat × Bool)} {p q : Operand} {t' e : TypeId}, P.underlying t' = some (.slice e) → sizeT P e = some 1 → ev l p = some v → ev l q = some (.int .i64 1) → Val P μ l L ⟨ds, .slice t' p (some q) none none, ty, pos, af, gd⟩ (.slice A xs.length c) := by
  cases h with
  | «at» g off k sz _ hk hs hm =>
    simp only [List.length_cons] at hk
    by_cases hk1 : k = 1
    · have hx0 : xs = [] := List.eq_nil_of_length_eq_zero (by omega)
      subst hx0
      subst hk1
      refine ⟨some ⟨g, off, none⟩, 0, .inl ⟨g, t, sz, idx off []⟩, .cells subS_nil, Qu.at g off 0 sz [] (by simp) (by omega) hm, ?_⟩
      intro P μ l L ds ty pos af gd p q t' e h1 h2 h3 h4
      exact v_slice_lo 1 h1 h2 h3 h4 rfl (by simp)
    · refine ⟨some ⟨g, off + 1, none⟩, k - 1, .inl ⟨g, t, sz, idx (off + 1) xs⟩, .cells (subS_idx_drop off (u :: xs)), Qu.at g (off + 1) (k - 1) sz xs (by omega) (by omega) hm, ?_⟩
      intro P μ l L ds ty pos af gd p q t' e h1 h2 h3 h4
      have hv := v_slice_lo (P := P) (μ := μ) (L := L) (ds := ds) (ty := ty) (pos := pos) (af := af) (gd := gd) 1 h1 h2 h3 h4 rfl (by simp)
      rw [if_neg hk1] at hv
      have e1 : ((some ⟨g, off, none⟩ : Option Addr).map fun x => x.add (1 * 1)) = some ⟨g, off + 1, none⟩ := by simp [Addr.add_lit]
      rw [e1] at hv
      simpa using hv
theorem Qu.cut (h : Qu t v x xs) : ∃ A c x', BkLe x' x ∧ Qu t (.slice A 0 c) x' [] ∧ ∀ {P : Program} {μ : Mem} {l : Slots} {L : List Bk} {ds : Option Nat} {ty : TypeId} {pos : String} {af : Array Edge} {gd : Option (Nat × Bool)} {p q : Operand} {t' e : TypeId}, P.underlying t' = some (.slice e) → sizeT P e = some 1 → ev l p = some v → ev l q = some (.int .i64 0) → Val P μ l L ⟨ds, .slice t' p none (some q) none, ty, pos, af, gd⟩ (.slice A 0 c) := by
  cases h with
  | nil =>
    refine ⟨none, 0, .inr ⟨.slice none 0 0, t, 1, 0, []⟩, .refl _, Qu.nil, ?_⟩
    intro P μ l L ds ty pos af gd p q t' e h1 h2 h3 h4
    exact v_slice_hi 0 h1 h2 h3 h4 rfl (by simp)
  | «at» g off k sz _ hk hs hm =>
    refine ⟨some ⟨g, off, none⟩, k, .inl ⟨g, t, sz, idx off []⟩, .cells subS_nil, Qu.at g off k sz [] (by simp) hs hm, ?_⟩
    intro P μ l L ds ty pos af gd p q t' e h1 h2 h3 h4
    exact v_slice_hi 0 h1 h2 h3 h4 rfl (by omega)
theorem Qu.hd (h : Qu t v x (u :: xs)) : ∃ g off c, v = .slice (some ⟨g, off, none⟩) (xs.length + 1) c ∧ ∀ {P : Program} {μ : Mem} {l : Slots} {L : List Bk} {ds : Option Nat} {ty : TypeId} {pos : String} {af : Array Edge} {gd : Option (Nat × Bool)} {p : Operand} {t' : TypeId} (i : Nat), aggOf P t' = some false → nthB L i = some x → ev l p = some (.pointer (some (Addr.add ⟨g, off, none⟩ (0 * 1)))) → Val P μ l L ⟨ds, .load t' p, ty, pos, af, gd⟩ u := by
  cases h with
  | «at» g off k sz _ hk hs hm =>
    refine ⟨g, off, k, by simp, ?_⟩
    intro P μ l L ds ty pos af gd p t' i h1 h2 h3
    rw [Nat.zero_mul, add_z] at h3
    exact v_load_own (y := ⟨g, t, sz, idx off (u :: xs)⟩) i h1 h2 h3 (by simp [idx, lk])
end
section
variable {P : Program} {X : Ctx} {Q : Exit → Act → World → Prop} {μ : Mem} {l : Slots} {L : List Bk} {rest : List Oper} {ops : Array Oper}
theorem g_le {x x' : Bk} (i : Nat) (hi : nthB L i = some x) (hle : BkLe x' x) (h : G P X ops Q rest μ l (updB L i x')) : G P X ops Q rest μ l L := fun a w hs => h a w (hs.sel (fun _ _ h => h) (sel_updB hle hi))
theorem gq_le {e : Exit} {x x' : Bk} (i : Nat) (hi : nthB L i = some x) (hle : BkLe x' x) (h : GQ X Q e μ l (updB L i x')) : GQ X Q e μ l L := fun a w hs => h a w (hs.sel (fun _ _ h => h) (sel_updB hle hi))
end
end
end Go.Vcg
namespace Go.Proofs.YtoclmkdfcafhfaaGreatDoor
end Go.Proofs.YtoclmkdfcafhfaaGreatDoor
