/- Own blocks are told apart: their numbers occur once. -/
import Derived.Test.YtccbkihnedpjcaaDoorQad
set_option maxRecDepth 20000
namespace Go.Vcg
section
open Go.RowKit
theorem ids_count : ∀ {L : List Bk}, L.Pairwise (fun x y => ∀ b, Bk.id x = some b → Bk.id y ≠ some b) → ∀ D, (idsOf L).count D ≤ 1
  | [], _, D => by simp [idsOf]
  | x :: r, h, D => by
    obtain ⟨h1, h2⟩ := List.pairwise_cons.1 h
    have ih := ids_count h2 D
    unfold idsOf
    cases hx : Bk.id x with
    | none => exact ih
    | some c =>
      dsimp only
      rw [List.count_cons]
      by_cases hc : c = D
      · subst hc
        have : (idsOf r).count c = 0 := List.count_eq_zero.2 fun hm => by
          obtain ⟨y, hy, hyb⟩ := mem_idsOf.1 hm
          exact h1 y hy c hx hyb
        simp [this]
      · simp [hc]; exact ih
end
section
open Go.RowKit
inductive BkLe : Bk → Bk → Prop
  | refl (x : Bk) : BkLe x x
  | cells {b : Nat} {t : TypeId} {sz : Nat} {cs cs' : Slots} (h : SubS cs' cs) : BkLe (.inl ⟨b, t, sz, cs'⟩) (.inl ⟨b, t, sz, cs⟩)
inductive Sel : List Bk → List Bk → Prop
  | nil (L : List Bk) : Sel [] L
  | cons {x y : Bk} {r a b : List Bk} (h : BkLe x y) (hr : Sel r (a ++ b)) : Sel (x :: r) (a ++ y :: b)
theorem BkLe.id {x y : Bk} (h : BkLe x y) : Bk.id x = Bk.id y := by cases h <;> rfl
theorem BkLe.at {x y : Bk} {w : World} (h : BkLe x y) (hy : Bk.at y w) : Bk.at x w := by
  cases h with
  | refl => exact hy
  | cells h =>
    obtain ⟨arr, h1, h2, h3⟩ := hy
    exact ⟨arr, h1, h2, fun k v hk => h3 k v (h k v hk)⟩
theorem sel_mem {L' L : List Bk} (h : Sel L' L) : ∀ x ∈ L', ∃ y ∈ L, BkLe x y := by
  induction h with
  | nil L => intro x hx; cases hx
  | cons h hr ih =>
    intro z hz
    rcases List.mem_cons.1 hz with rfl | hz
    · exact ⟨_, by simp, h⟩
    · obtain ⟨y, hy, hle⟩ := ih z hz
      refine ⟨y, ?_, hle⟩
      rcases List.mem_append.1 hy with hy | hy <;> simp [hy]
def Df (x y : Bk) : Prop := ∀ b, Bk.id x = some b → Bk.id y ≠ some b
theorem sel_diff {L' L : List Bk} (h : Sel L' L) : L.Pairwise Df → L'.Pairwise Df := by
  induction h with
  | nil L => intro _; exact List.Pairwise.nil
  | @cons x y r a b h hr ih =>
    intro hd
    have hd2 : (y :: (a ++ b)).Pairwise Df := (List.perm_middle.pairwise_iff (fun {_ _} hxy b hb hb' => hxy b hb' hb)).1 hd
    obtain ⟨h1, h2⟩ := List.pairwise_cons.1 hd2
    refine List.pairwise_cons.2 ⟨fun z hz c hc hzc => ?_, ih h2⟩
    obtain ⟨y2, hy2, hle⟩ := sel_mem hr z hz
    exact h1 y2 hy2 c (by rw [← h.id]; exact hc) (by rw [← hle.id]; exact hzc)
section
variable {P : Program} {X : Ctx} {Q : Exit → Act → World → Prop} {μ : Mem} {l : Slots} {L : List Bk} {a : Act} {w : World}
theorem St.sel {l' : Slots} {L' : List Bk} (h : St X μ l L a w) (hl : SubS l' l) (hL : Sel L' L) : St X μ l' L' a w :=
  ⟨h.size, h.defers, fun t v hv => h.slots t v (hl t v hv), h.keep, h.mem, h.from0, h.fresh, fun x hx => let ⟨y, hy, hle⟩ := sel_mem hL x hx; hle.at (h.own y hy), fun x hx b hb => let ⟨y, hy, hle⟩ := sel_mem hL x hx; h.priv y hy b (by rw [← hle.id]; exact hb), fun x hx b hb => let ⟨y, hy, hle⟩ := sel_mem hL x hx; h.new y hy b (by rw [← hle.id]; exact hb), sel_diff hL h.diff⟩
theorem gq_joinS {ι : Type} {J : ι → Prop} {μs : ι → Mem} {ls : ι → Slots} {Ls : ι → List Bk} (j : ι) (hJ : J j) (hμ : μs j = μ) (hl : SubS (ls j) l) (hL : Sel (Ls j) L) :
    GQ X (Exit.then (Join X J μs ls Ls) Q) .normal μ l L := fun a w hs => ⟨j, hJ, by rw [hμ]; exact hs.sel hl hL⟩
theorem gq_backS {ι : Type} {J : ι → Prop} {m : ι → Nat} {μs : ι → Mem} {ls : ι → Slots} {Ls : ι → List Bk} {i : ι} (j : ι) (hJ : J j) (hm : m j < m i) (hμ : μs j = μ) (hl : SubS (ls j) l) (hL : Sel (Ls j) L) :
    GQ X (Exit.then (Back X J m μs ls Ls i) Q) .normal μ l L := fun a w hs => ⟨j, hJ, hm, by rw [hμ]; exact hs.sel hl hL⟩
theorem gq_sel {e : Exit} {l' : Slots} {L' : List Bk} (hl : SubS l' l) (hL : Sel L' L) (h : GQ X Q e μ l' L') : GQ X Q e μ l L := fun a w hs => h a w (hs.sel hl hL)
theorem sel_0 {x y : Bk} {r L : List Bk} (h : BkLe x y) (hr : Sel r (L)) : Sel (x :: r) (y :: L) := Sel.cons (a := []) h hr
theorem sel_1 {x y : Bk} {y0 : Bk} {r L : List Bk} (h : BkLe x y) (hr : Sel r (y0 :: L)) : Sel (x :: r) (y0 :: y :: L) := Sel.cons (a := [y0]) h hr
theorem sel_2 {x y : Bk} {y0 y1 : Bk} {r L : List Bk} (h : BkLe x y) (hr : Sel r (y0 :: y1 :: L)) : Sel (x :: r) (y0 :: y1 :: y :: L) := Sel.cons (a := [y0, y1]) h hr
theorem sel_3 {x y : Bk} {y0 y1 y2 : Bk} {r L : List Bk} (h : BkLe x y) (hr : Sel r (y0 :: y1 :: y2 :: L)) : Sel (x :: r) (y0 :: y1 :: y2 :: y :: L) := Sel.cons (a := [y0, y1, y2]) h hr
theorem sel_4 {x y : Bk} {y0 y1 y2 y3 : Bk} {r L : List Bk} (h : BkLe x y) (hr : Sel r (y0 :: y1 :: y2 :: y3 :: L)) : Sel (x :: r) (y0 :: y1 :: y2 :: y3 :: y :: L) := Sel.cons (a := [y0, y1, y2, y3]) h hr
theorem sel_5 {x y : Bk} {y0 y1 y2 y3 y4 : Bk} {r L : List Bk} (h : BkLe x y) (hr : Sel r (y0 :: y1 :: y2 :: y3 :: y4 :: L)) : Sel (x :: r) (y0 :: y1 :: y2 :: y3 :: y4 :: y :: L) := Sel.cons (a := [y0, y1, y2, y3, y4]) h hr
theorem sel_6 {x y : Bk} {y0 y1 y2 y3 y4 y5 : Bk} {r L : List Bk} (h : BkLe x y) (hr : Sel r (y0 :: y1 :: y2 :: y3 :: y4 :: y5 :: L)) : Sel (x :: r) (y0 :: y1 :: y2 :: y3 :: y4 :: y5 :: y :: L) := Sel.cons (a := [y0, y1, y2, y3, y4, y5]) h hr
theorem sel_7 {x y : Bk} {y0 y1 y2 y3 y4 y5 y6 : Bk} {r L : List Bk} (h : BkLe x y) (hr : Sel r (y0 :: y1 :: y2 :: y3 :: y4 :: y5 :: y6 :: L)) : Sel (x :: r) (y0 :: y1 :: y2 :: y3 :: y4 :: y5 :: y6 :: y :: L) := Sel.cons (a := [y0, y1, y2, y3, y4, y5, y6]) h hr
theorem sel_8 {x y : Bk} {y0 y1 y2 y3 y4 y5 y6 y7 : Bk} {r L : List Bk} (h : BkLe x y) (hr : Sel r (y0 :: y1 :: y2 :: y3 :: y4 :: y5 :: y6 :: y7 :: L)) : Sel (x :: r) (y0 :: y1 :: y2 :: y3 :: y4 :: y5 :: y6 :: y7 :: y :: L) := Sel.cons (a := [y0, y1, y2, y3, y4, y5, y6, y7]) h hr
theorem updB_id : ∀ {L : List Bk} {i : Nat} {x : Bk}, nthB L i = some x → updB L i x = L
  | [], _, _, h => by simp [nthB] at h
  | y :: r, 0, x, h => by simp [nthB] at h; simp [updB, h]
  | y :: r, i + 1, x, h => by simp only [updB]; rw [updB_id (i := i) (by simpa [nthB] using h)]
theorem St.rowEq {i : Nat} {v : Value} {e s n n' : Nat} {xs xs' : List Value} (h : St X μ l L a w) (hi : nthB L i = some (.inr ⟨v, e, s, n, xs⟩)) (hn : n = n') (hx : xs = xs') : St X μ l (updB L i (.inr ⟨v, e, s, n', xs'⟩)) a w := by
  subst hn hx
  rw [updB_id hi]
  exact h
theorem gq_rowEq {ex : Exit} {v : Value} {e s n n' : Nat} {xs xs' : List Value} (i : Nat) (hi : nthB L i = some (.inr ⟨v, e, s, n, xs⟩)) (hn : n = n') (hx : xs = xs') (h : GQ X Q ex μ l (updB L i (.inr ⟨v, e, s, n', xs'⟩))) : GQ X Q ex μ l L := fun a w hs => h a w (hs.rowEq hi hn hx)
theorem gc_nilR {c : Code} (e s : Nat) (h : GC P X c Q μ l (.inr ⟨.slice none 0 0, e, s, 0, []⟩ :: L)) : GC P X c Q μ l L := fun a w hs => h a w (hs.nilRow e s)
def GCs (P : Program) (X : Ctx) (c : Code) (Q : Exit → Act → World → Prop) (μ : Mem) (l : Slots) (L : List Bk) : Prop := GC P X c Q μ l L
theorem gc_stop {c : Code} (h : GCs P X c Q μ l L) : GC P X c Q μ l L := h
theorem gcs {c : Code} (h : GC P X c Q μ l L) : GCs P X c Q μ l L := h
end
end
section
open Go.RowKit
section
variable {P : Program} {X : Ctx} {ops : Array Oper} {Q : Exit → Act → World → Prop} {rest : List Oper} {μ μr : Mem} {l : Slots} {L Lr : List Bk} {a : Act} {w : World} {o : Oper} {d fuel i : Nat} {listed : Array Bool}
variable {ty : TypeId} {pos : String} {af : Array Edge} {gd : Option (Nat × Bool)} {ds : Option Nat}
theorem J1 {ι : Type} {J : ι → Prop} {μs : ι → Mem} {ls : ι → Slots} {Ls : ι → List Bk} (j : ι) (hJ : J j)
    (hμ : μs j = μ := by first | exact rfl | fail)
    (hl : SubS (ls j) l := by first | (repeat first | exact subS_nil | refine subS_cons rfl ?_); done | fail)
    (hL : Sel (Ls j) L := by first | (repeat first | exact Sel.nil _ | (refine sel_0 ?_ ?_; focus (first | exact BkLe.refl _ | (refine BkLe.cells ?_; repeat first | exact subS_nil | refine subS_cons rfl ?_))) | (refine sel_1 ?_ ?_; focus (first | exact BkLe.refl _ | (refine BkLe.cells ?_; repeat first | exact subS_nil | refine subS_cons rfl ?_))) | (refine sel_2 ?_ ?_; focus (first | exact BkLe.refl _ | (refine BkLe.cells ?_; repeat first | exact subS_nil | refine subS_cons rfl ?_))) | (refine sel_3 ?_ ?_; focus (first | exact BkLe.refl _ | (refine BkLe.cells ?_; repeat first | exact subS_nil | refine subS_cons rfl ?_))) | (refine sel_4 ?_ ?_; focus (first | exact BkLe.refl _ | (refine BkLe.cells ?_; repeat first | exact subS_nil | refine subS_cons rfl ?_))) | (refine sel_5 ?_ ?_; focus (first | exact BkLe.refl _ | (refine BkLe.cells ?_; repeat first | exact subS_nil | refine subS_cons rfl ?_))) | (refine sel_6 ?_ ?_; focus (first | exact BkLe.refl _ | (refine BkLe.cells ?_; repeat first | exact subS_nil | refine subS_cons rfl ?_))) | (refine sel_7 ?_ ?_; focus (first | exact BkLe.refl _ | (refine BkLe.cells ?_; repeat first | exact subS_nil | refine subS_cons rfl ?_))) | (refine sel_8 ?_ ?_; focus (first | exact BkLe.refl _ | (refine BkLe.cells ?_; repeat first | exact subS_nil | refine subS_cons rfl ?_)))); done | fail) :
    GQ X (Exit.then (Join X J μs ls Ls) Q) .normal μ l L := gq_joinS (j := j) (hJ := hJ) (hμ := hμ) (hl := hl) (hL := hL)
theorem J2 {ι : Type} {J : ι → Prop} {m : ι → Nat} {μs : ι → Mem} {ls : ι → Slots} {Ls : ι → List Bk} {i : ι} (j : ι) (hJ : J j) (hm : m j < m i)
    (hμ : μs j = μ := by first | exact rfl | fail)
    (hl : SubS (ls j) l := by first | (repeat first | exact subS_nil | refine subS_cons rfl ?_); done | fail)
    (hL : Sel (Ls j) L := by first | (repeat first | exact Sel.nil _ | (refine sel_0 ?_ ?_; focus (first | exact BkLe.refl _ | (refine BkLe.cells ?_; repeat first | exact subS_nil | refine subS_cons rfl ?_))) | (refine sel_1 ?_ ?_; focus (first | exact BkLe.refl _ | (refine BkLe.cells ?_; repeat first | exact subS_nil | refine subS_cons rfl ?_))) | (refine sel_2 ?_ ?_; focus (first | exact BkLe.refl _ | (refine BkLe.cells ?_; repeat first | exact subS_nil | refine subS_cons rfl ?_))) | (refine sel_3 ?_ ?_; focus (first | exact BkLe.refl _ | (refine BkLe.cells ?_; repeat first | exact subS_nil | refine subS_cons rfl ?_))) | (refine sel_4 ?_ ?_; focus (first | exact BkLe.refl _ | (refine BkLe.cells ?_; repeat first | exact subS_nil | refine subS_cons rfl ?_))) | (refine sel_5 ?_ ?_; focus (first | exact BkLe.refl _ | (refine BkLe.cells ?_; repeat first | exact subS_nil | refine subS_cons rfl ?_))) | (refine sel_6 ?_ ?_; focus (first | exact BkLe.refl _ | (refine BkLe.cells ?_; repeat first | exact subS_nil | refine subS_cons rfl ?_))) | (refine sel_7 ?_ ?_; focus (first | exact BkLe.refl _ | (refine BkLe.cells ?_; repeat first | exact subS_nil | refine subS_cons rfl ?_))) | (refine sel_8 ?_ ?_; focus (first | exact BkLe.refl _ | (refine BkLe.cells ?_; repeat first | exact subS_nil | refine subS_cons rfl ?_)))); done | fail) :
    GQ X (Exit.then (Back X J m μs ls Ls i) Q) .normal μ l L := gq_backS (j := j) (hJ := hJ) (hm := hm) (hμ := hμ) (hl := hl) (hL := hL)
theorem J5 {l' : Slots} {L' : List Bk} (h : St X μ l L a w)
    (hl : SubS l' l := by first | (repeat first | exact subS_nil | refine subS_cons rfl ?_); done | fail)
    (hL : Sel L' L := by first | (repeat first | exact Sel.nil _ | (refine sel_0 ?_ ?_; focus (first | exact BkLe.refl _ | (refine BkLe.cells ?_; repeat first | exact subS_nil | refine subS_cons rfl ?_))) | (refine sel_1 ?_ ?_; focus (first | exact BkLe.refl _ | (refine BkLe.cells ?_; repeat first | exact subS_nil | refine subS_cons rfl ?_))) | (refine sel_2 ?_ ?_; focus (first | exact BkLe.refl _ | (refine BkLe.cells ?_; repeat first | exact subS_nil | refine subS_cons rfl ?_))) | (refine sel_3 ?_ ?_; focus (first | exact BkLe.refl _ | (refine BkLe.cells ?_; repeat first | exact subS_nil | refine subS_cons rfl ?_))) | (refine sel_4 ?_ ?_; focus (first | exact BkLe.refl _ | (refine BkLe.cells ?_; repeat first | exact subS_nil | refine subS_cons rfl ?_))) | (refine sel_5 ?_ ?_; focus (first | exact BkLe.refl _ | (refine BkLe.cells ?_; repeat first | exact subS_nil | refine subS_cons rfl ?_))) | (refine sel_6 ?_ ?_; focus (first | exact BkLe.refl _ | (refine BkLe.cells ?_; repeat first | exact subS_nil | refine subS_cons rfl ?_))) | (refine sel_7 ?_ ?_; focus (first | exact BkLe.refl _ | (refine BkLe.cells ?_; repeat first | exact subS_nil | refine subS_cons rfl ?_))) | (refine sel_8 ?_ ?_; focus (first | exact BkLe.refl _ | (refine BkLe.cells ?_; repeat first | exact subS_nil | refine subS_cons rfl ?_)))); done | fail) :
    St X μ l' L' a w := St.sel (h := h) (hl := hl) (hL := hL)
theorem D1 {v : Value} (i : Nat) (hg : GA P X μr Lr ops Q fuel (listed.setIfInBounds i true) μ ((d, v) :: l) L)
    (h : pstepAt P X.n ops l i = some (d, v) := by first | exact rfl | fail)
    (hk : drawOk ops listed i = true := by first | kernel_rfl | fail)
    (hQ : ∀ c a w, Q (.panic c) (Act.put a (some d) v) w → Q (.panic c) a w := by exact fun _ _ _ h => h) :
    GA P X μr Lr ops Q (fuel + 1) listed μ l L := ga_p (i := i) (h := h) (hk := hk) (hQ := hQ) (hg := hg)
theorem D3  (i : Nat) (h : GAop P X μr Lr ops Q fuel listed i μ l L)
    (hr : Region.ready .any ops listed = [i] := by first | kernel_rfl | fail) :
    GA P X μr Lr ops Q (fuel + 1) listed μ l L := ga_all1 (i := i) (hr := hr) (h := h)
theorem D5  (h : G P X ops (QA Q (fun a w => Sm μr Lr w ∧ wpAnyH P .any ops Q (Sm μr Lr) fuel (listed.setIfInBounds i true) a w)) [o] μ l L)
    (ho : nthO ops.toList i = some o := by first | exact rfl | fail) :
    GAop P X μr Lr ops Q fuel listed i μ l L := gaop_g (ho := ho) (h := h)
theorem D7 {t : Nat} {b : Bool} (i : Nat) (hg : PIf b (GA P X μr Lr ops Q fuel listed μ ((t, .bool true) :: l) L) (GA P X μr Lr ops Q fuel listed μ ((t, .bool false) :: l) L))
    (ho : nthO ops.toList i = some o := by first | exact rfl | fail)
    (h : gtest ops l o = some (t, b) := by first | exact rfl | fail)
    (hb : NLit b := by (fail_if_success (with_reducible show NLit true)); (fail_if_success (with_reducible show NLit false)); exact nLit _) :
    GA P X μr Lr ops Q fuel listed μ l L := ga_if (i := i) (ho := ho) (h := h) (hb := hb) (hg := hg)
theorem D8  (h : GQ X Q .normal μ l L)
    (hr : Region.ready .any ops listed = [] := by first | kernel_rfl | fail) :
    GA P X μr Lr ops Q fuel listed μ l L := ga_done (hr := hr) (h := h)
theorem D9  (h : GA P X μr Lr ops Q fuel listed μ l L)
    (hle : MLe μr μ := by first | exact MLe.refl _ | assumption | (focus (repeat (first | exact MLe.refl _ | assumption | (apply MLe.trans; rotate_left; assumption)))); done | fail)
    (hLr : Lr.Sublist L := by first | (repeat first | exact List.Sublist.refl _ | exact List.nil_sublist _ | refine List.Sublist.cons_cons _ ?_ | refine List.Sublist.cons _ ?_); done | fail) :
    G P X ops (QA Q (fun a w => Sm μr Lr w ∧ wpAnyH P .any ops Q (Sm μr Lr) fuel listed a w)) [] μ l L := g_ga_nil (hle := hle) (hLr := hLr) (h := h)
theorem EN {A : Prop} (h : A := by first | ((with_reducible apply e_call0); kernel_rfl) | ((with_reducible apply e_call1); kernel_rfl; exact rfl) | ((with_reducible apply e_call2); kernel_rfl; exact rfl; exact rfl) | ((with_reducible apply e_call3); kernel_rfl; exact rfl; exact rfl; exact rfl) | ((with_reducible apply e_call4); kernel_rfl; exact rfl; exact rfl; exact rfl; exact rfl) | ((with_reducible apply e_call5); kernel_rfl; exact rfl; exact rfl; exact rfl; exact rfl; exact rfl) | ((with_reducible apply e_call6); kernel_rfl; exact rfl; exact rfl; exact rfl; exact rfl; exact rfl; exact rfl) | ((with_reducible apply e_callv0); exact rfl; (first | assumption | kernel_rfl)) | ((with_reducible apply e_callv1); exact rfl; (first | assumption | kernel_rfl); exact rfl) | ((with_reducible apply e_callv2); exact rfl; (first | assumption | kernel_rfl); exact rfl; exact rfl) | fail) : A := h
theorem C1  {f : FuncId} {vs : Array Value} {v : Value} (hd : pdst X.n ops l o = some d) (hr : Ent P μ l L o f vs) (hc : ∀ w μc, MOk μc w → Sees μc μ L → Calls P f vs w fun e w' => e = .returned v ∧ Below w.heap.size w w') (h : G P X ops Q rest μ ((d, v) :: l) L) :
    G P X ops Q (o :: rest) μ l L := by
  obtain ⟨h1, h2, h3⟩ := pdst_spec hd
  exact g_enter_s (hd := h1) (hn := h2) (hw := h3) (hr := hr) (hc := hc) (h := h)
theorem F1 (f : FuncId) {qs : Array Operand} {ts : Array TypeId} {vs : Array Value} {v : Value} (hd : pdst X.n ops l ⟨ds, .call { callee := .value (.func f), args := qs, argTypes := ts }, ty, pos, af, gd⟩ = some d) (hr : Ent P μ l L ⟨ds, .call { callee := .value (.func f), args := qs, argTypes := ts }, ty, pos, af, gd⟩ f vs) (hc : ∀ w μc, MOk μc w → Sees μc μ L → Calls P f vs w fun e w' => e = .returned v ∧ Below w.heap.size w w') (h : G P X ops Q rest μ ((d, v) :: l) L) :
    G P X ops Q (⟨ds, .call { callee := .value (.func f), args := qs, argTypes := ts }, ty, pos, af, gd⟩ :: rest) μ l L := by
  obtain ⟨h1, h2, h3⟩ := pdst_spec hd
  exact g_enter_s (hd := h1) (hn := h2) (hw := h3) (hr := hr) (hc := hc) (h := h)
theorem F2 (f : FuncId) {qs : Array Operand} {ts : Array TypeId} {vs : Array Value} {Post : Mem → Value → Prop} (hd : pdst X.n ops l ⟨ds, .call { callee := .value (.func f), args := qs, argTypes := ts }, ty, pos, af, gd⟩ = some d) (hr : Ent P μ l L ⟨ds, .call { callee := .value (.func f), args := qs, argTypes := ts }, ty, pos, af, gd⟩ f vs) (hc : ∀ w, MOk μ w → Calls P f vs w fun e w' => ∃ v μ', e = .returned v ∧ Grow w w' μ μ' ∧ Post μ' v) (h : ∀ v μ', MLe μ μ' → Post μ' v → G P X ops Q rest μ' ((d, v) :: l) L) :
    G P X ops Q (⟨ds, .call { callee := .value (.func f), args := qs, argTypes := ts }, ty, pos, af, gd⟩ :: rest) μ l L := by
  obtain ⟨h1, h2, h3⟩ := pdst_spec hd
  exact g_enter_m (hd := h1) (hn := h2) (hw := h3) (hr := hr) (hc := hc) (h := h)
theorem F3 (f : FuncId) {qs : Array Operand} {ts : Array TypeId} {vs : Array Value} {e s n : Nat} {xs : List Value} (hd : pdst X.n ops l ⟨ds, .call { callee := .value (.func f), args := qs, argTypes := ts }, ty, pos, af, gd⟩ = some d) (hr : Ent P μ l L ⟨ds, .call { callee := .value (.func f), args := qs, argTypes := ts }, ty, pos, af, gd⟩ f vs) (hc : ∀ w μc, MOk μc w → Sees μc μ L → Calls P f vs w (RowPost w e s n xs)) (h : ∀ v, G P X ops Q rest μ ((d, v) :: l) (.inr ⟨v, e, s, n, xs⟩ :: L)) :
    G P X ops Q (⟨ds, .call { callee := .value (.func f), args := qs, argTypes := ts }, ty, pos, af, gd⟩ :: rest) μ l L := by
  obtain ⟨h1, h2, h3⟩ := pdst_spec hd
  exact g_enter_row (hd := h1) (hn := h2) (hw := h3) (hr := hr) (hc := hc) (h := h)
def FStep (A B : Prop) : Prop := A → B
def DStep (_ : Nat) (A B : Prop) : Prop := A → B
theorem s_gc_seq {x y : Code}  :
    FStep (GC P X x (Exit.then (y.wp P Q) Q) μ l L) (GC P X (.seq x y) Q μ l L) := fun h => gc_seq (h := h)
theorem s_gc_region {id : Nat} {ops : List Oper}  :
    FStep (G P X ops.toArray Q ops μ l L) (GC P X (.region id ops.toArray false) Q μ l L) := fun h => gc_region (h := h)
theorem s_g_nil {ops : Array Oper}  :
    FStep (GQ X Q .normal μ l L) (G P X ops Q [] μ l L) := fun h => g_nil (h := h)
theorem s_gq_then {y : Code}  :
    FStep (GC P X y Q μ l L) (GQ X (Exit.then (y.wp P Q) Q) .normal μ l L) := fun h => gq_then (h := h)
theorem s_gc_block {id : Nat} {c : Code}  :
    FStep (GC P X c (Exit.inBlock id Q) μ l L) (GC P X (.block id c) Q μ l L) := fun h => gc_block (h := h)
theorem s_gc_exit {id : Nat}  :
    FStep (GQ X Q (.exit id) μ l L) (GC P X (.exit id) Q μ l L) := fun h => gc_exit (h := h)
theorem s_gc_ret   :
    FStep (GQ X Q .ret μ l L) (GC P X .ret Q μ l L) := fun h => gc_ret (h := h)
theorem s_gc_skip   :
    FStep (GQ X Q .normal μ l L) (GC P X .skip Q μ l L) := fun h => gc_skip (h := h)
theorem s_gq_then_exit {K : Act → World → Prop} {i : Nat}  :
    FStep (GQ X Q (.exit i) μ l L) (GQ X (Exit.then K Q) (.exit i) μ l L) := fun h => gq_then_exit (h := h)
theorem s_gq_then_ret {K : Act → World → Prop}  :
    FStep (GQ X Q .ret μ l L) (GQ X (Exit.then K Q) .ret μ l L) := fun h => gq_then_ret (h := h)
theorem s_gq_block_same {i : Nat}  :
    FStep (GQ X Q .normal μ l L) (GQ X (Exit.inBlock i Q) (.exit i) μ l L) := fun h => gq_block_same (h := h)
theorem s_gq_block_normal {i : Nat}  :
    FStep (GQ X Q .normal μ l L) (GQ X (Exit.inBlock i Q) .normal μ l L) := fun h => gq_block_normal (h := h)
theorem s_gq_block_ret {i : Nat}  :
    FStep (GQ X Q .ret μ l L) (GQ X (Exit.inBlock i Q) .ret μ l L) := fun h => gq_block_ret (h := h)
theorem s_pif_t {p q : Prop}  :
    FStep (p) (PIf true p q) := fun h => pif_t (h := h)
theorem s_pif_f {p q : Prop}  :
    FStep (q) (PIf false p q) := fun h => pif_f (h := h)
theorem s_pif_not {b : Bool} {p q : Prop}  :
    FStep (PIf b q p) (PIf (!b) p q) := fun h => pif_not (h := h)
theorem s_g_p {v : Value} (h : pstep P X.n ops l o = some (d, v)) :
    FStep (G P X ops Q rest μ ((d, v) :: l) L) (G P X ops Q (o :: rest) μ l L) := fun hg => g_p (h := h) (hg := hg)
theorem s_gc_if {c : Operand} {x y : Code} {b : Bool} (hc : ev l c = some (.bool b)) :
    FStep (PIf b (GC P X x Q μ l L) (GC P X y Q μ l L)) (GC P X (.cond c x y) Q μ l L) := fun h => gc_if (hc := hc) (h := h)
theorem s_pif_decT {c p q : Prop} {_ : Decidable c} (hc : c) :
    FStep (p) (PIf (decide c) p q) := fun h => pif_decT (hc := hc) (h := h)
theorem s_pif_decF {c p q : Prop} {_ : Decidable c} (hc : ¬ c) :
    FStep (q) (PIf (decide c) p q) := fun h => pif_decF (hc := hc) (h := h)
theorem s_pif_tt {b : Bool} {p q : Prop} (hb : b = true) :
    FStep (p) (PIf b p q) := fun h => pif_tt (hb := hb) (h := h)
theorem s_pif_ff {b : Bool} {p q : Prop} (hb : b = false) :
    FStep (q) (PIf b p q) := fun h => pif_ff (hb := hb) (h := h)
theorem s_g_ar {r : Int} (h : arstep X.n ops l o = some (d, r)) (hb : -9223372036854775808 ≤ r ∧ r ≤ 9223372036854775807) :
    FStep (G P X ops Q rest μ ((d, .int .i64 r) :: l) L) (G P X ops Q (o :: rest) μ l L) := fun hg => g_ar (h := h) (hb := hb) (hg := hg)
theorem s_g_ld {t b off : Nat} {y : Blk} {v : Value} (hd : pdst X.n ops l o = some d) (h : ldop l o.op = some (t, b, off)) (hb : InB L b y) (hv : ldv P t y.cs off = some v) :
    FStep (G P X ops Q rest μ ((d, v) :: l) L) (G P X ops Q (o :: rest) μ l L) := fun hg => g_ld (hd := hd) (h := h) (hb := hb) (hv := hv) (hg := hg)
theorem s_g_v {v : Value} (hd : pdst X.n ops l o = some d) (hr : Val P μ l L o v) :
    FStep (G P X ops Q rest μ ((d, v) :: l) L) (G P X ops Q (o :: rest) μ l L) := fun h => g_v (hd := hd) (hr := hr) (h := h)
theorem s_g_st {b off : Nat} {vs : List Value} {L' : List Bk} (hd : pnone ops l o = true) (h : stop P l o.op = some (b, off, vs)) (h1 : Ones vs) (hu : UpB L b off vs L') :
    FStep (G P X ops Q rest μ l L') (G P X ops Q (o :: rest) μ l L) := fun hg => g_st (hd := hd) (h := h) (h1 := h1) (hu := hu) (hg := hg)
theorem s_gq_block_other {i j : Nat} (hij : Nat.beq j i = false) :
    FStep (GQ X Q (.exit j) μ l L) (GQ X (Exit.inBlock i Q) (.exit j) μ l L) := fun h => gq_block_other (hij := hij) (h := h)
theorem s_g_if {t : Nat} {b : Bool} (h : gtest ops l o = some (t, b)) (hb : NLit b) :
    FStep (PIf b (G P X ops Q (o :: rest) μ ((t, .bool true) :: l) L) (G P X ops Q (o :: rest) μ ((t, .bool false) :: l) L)) (G P X ops Q (o :: rest) μ l L) := fun hg => g_if (h := h) (hb := hb) (hg := hg)
theorem s_g_nw {t : TypeId} {cs : List Value} {n : Nat} (hd : pdst X.n ops l o = some d) (h : nwop P l o.op = some (t, cs)) (hn : nat16 cs.length some = some n) :
    FStep (∀ b, G P X ops Q rest μ ((d, .pointer (some ⟨b, 0, none⟩)) :: l) (.inl ⟨b, t, n, idx 0 cs⟩ :: L)) (G P X ops Q (o :: rest) μ l L) := fun hg => g_nw (hd := hd) (h := h) (hn := hn) (hg := hg)
theorem s_g_bs {t : TypeId} {cs : List Value} {n m : Nat} (hd : pdst X.n ops l o = some d) (h : bsop P l o.op = some (t, m, cs)) (hn : nat16 cs.length some = some n) :
    FStep (∀ b, G P X ops Q rest μ ((d, .slice (some ⟨b, 0, none⟩) m m) :: l) (.inl ⟨b, t, n, idx 0 cs⟩ :: L)) (G P X ops Q (o :: rest) μ l L) := fun hg => g_bs (hd := hd) (h := h) (hn := hn) (hg := hg)
theorem s2_dec {c p q : Prop} {_ : Decidable c} : FStep ((c → p) ∧ (¬c → q)) (PIf (decide c) p q) := fun h => pif_dec h.1 h.2
theorem s2_b {b : Bool} {p q : Prop} : FStep ((b = true → p) ∧ (b = false → q)) (PIf b p q) := fun h => pif_b h.1 h.2
theorem KO {A B : Prop} (h : A)
    (f : FStep A B := by first | ((with_reducible (first | apply s_gc_seq | apply s_gc_region | apply s_g_nil | apply s_gq_then | apply s_gc_block | apply s_gc_exit | apply s_gc_ret | apply s_gc_skip | apply s_gq_then_exit | apply s_gq_then_ret | apply s_gq_block_same | apply s_gq_block_normal | apply s_gq_block_ret | apply s_pif_t | apply s_pif_f | apply s_pif_not))) | ((with_reducible apply s_g_p); exact rfl) | ((with_reducible apply s_gc_if); exact rfl) | ((with_reducible apply s_pif_decT); (first | omega | with_reducible assumption | with_reducible rfl)) | ((with_reducible apply s_pif_decF); (first | omega | with_reducible assumption | with_reducible exact ne_self_f _)) | ((with_reducible apply s_pif_tt); exact rfl) | ((with_reducible apply s_pif_ff); exact rfl) | fail) : B := f h
theorem KK {A B : Prop} (h : A)
    (f : FStep A B := by first | ((with_reducible (first | apply s_gc_seq | apply s_gc_region | apply s_g_nil | apply s_gq_then | apply s_gc_block | apply s_gc_exit | apply s_gc_ret | apply s_gc_skip | apply s_gq_then_exit | apply s_gq_then_ret | apply s_gq_block_same | apply s_gq_block_normal | apply s_gq_block_ret | apply s_pif_t | apply s_pif_f | apply s_pif_not))) | ((with_reducible apply s_g_p); exact rfl) | ((with_reducible apply s_gc_if); exact rfl) | ((with_reducible apply s_pif_decT); (first | omega | with_reducible assumption | with_reducible rfl)) | ((with_reducible apply s_pif_decF); (first | omega | with_reducible assumption | with_reducible exact ne_self_f _)) | ((with_reducible apply s_pif_tt); exact rfl) | ((with_reducible apply s_pif_ff); exact rfl) | ((with_reducible apply s_g_ar); exact rfl; omega) | ((with_reducible apply s_g_ld); exact rfl; exact rfl; (repeat first | with_reducible exact inb_hd | with_reducible apply inb_tl); exact rfl) | ((with_reducible apply s_g_v); exact rfl; (first | ((with_reducible apply v_field_n); exact rfl; exact rfl) | ((with_reducible apply v_index_n); exact rfl; exact rfl; exact rfl; exact rfl; omega) | ((with_reducible apply v_ld); exact rfl; (repeat first | with_reducible exact inb_hd | with_reducible apply inb_tl); exact rfl) | ((with_reducible apply v_sindex_n); exact rfl; exact rfl; exact rfl; omega) | ((with_reducible apply v_fieldv); exact rfl; exact rfl) | ((with_reducible apply v_neg_i); exact rfl; omega) | ((with_reducible apply v_max2); exact rfl; exact rfl) | ((with_reducible apply v_min2); exact rfl; exact rfl) | ((with_reducible apply v_quo_i); exact rfl; exact rfl; (first | omega | with_reducible assumption); (first | omega | with_reducible assumption)) | ((with_reducible apply v_rem); exact rfl; exact rfl; (first | omega | with_reducible assumption)) | ((with_reducible apply v_conv_int); exact rfl; exact rfl; exact rfl; omega) | ((with_reducible apply arB_sound); exact rfl; omega) | ((with_reducible apply v_aggeql); exact rfl; exact rfl; exact rfl; kernel_rfl; kernel_rfl; kernel_rfl; kernel_rfl) | ((with_reducible apply v_aggneq); exact rfl; exact rfl; exact rfl; kernel_rfl; kernel_rfl; kernel_rfl; kernel_rfl) | ((with_reducible apply v_len_row 0); exact rfl; exact rfl; exact rfl) | ((with_reducible apply v_len_row 1); exact rfl; exact rfl; exact rfl) | ((with_reducible apply v_len_row 2); exact rfl; exact rfl; exact rfl) | ((with_reducible apply v_len_row 3); exact rfl; exact rfl; exact rfl) | ((with_reducible apply v_slice_arr); exact rfl; exact rfl; exact rfl))) | ((with_reducible apply s_g_st); exact rfl; exact rfl; (repeat first | with_reducible exact ones_nil | ((with_reducible apply ones_cons); (first | exact rfl | assumption))); (repeat first | with_reducible apply upb_hd | with_reducible apply upb_tl); exact rfl; (repeat first | with_reducible exact pc_nil | with_reducible apply pc_cons)) | ((with_reducible apply s_gq_block_other); exact rfl) | fail) : B := f h
theorem KI {A B : Prop} (h : A)
    (f : FStep A B := by first | ((with_reducible apply s_g_ar); exact rfl; omega) | ((with_reducible apply s_g_ld); exact rfl; exact rfl; (repeat first | with_reducible exact inb_hd | with_reducible apply inb_tl); exact rfl) | ((with_reducible apply s_g_v); exact rfl; (first | ((with_reducible apply v_field_n); exact rfl; exact rfl) | ((with_reducible apply v_index_n); exact rfl; exact rfl; exact rfl; exact rfl; omega) | ((with_reducible apply v_ld); exact rfl; (repeat first | with_reducible exact inb_hd | with_reducible apply inb_tl); exact rfl) | ((with_reducible apply v_sindex_n); exact rfl; exact rfl; exact rfl; omega) | ((with_reducible apply v_fieldv); exact rfl; exact rfl) | ((with_reducible apply v_neg_i); exact rfl; omega) | ((with_reducible apply v_max2); exact rfl; exact rfl) | ((with_reducible apply v_min2); exact rfl; exact rfl) | ((with_reducible apply v_quo_i); exact rfl; exact rfl; (first | omega | with_reducible assumption); (first | omega | with_reducible assumption)) | ((with_reducible apply v_rem); exact rfl; exact rfl; (first | omega | with_reducible assumption)) | ((with_reducible apply v_conv_int); exact rfl; exact rfl; exact rfl; omega) | ((with_reducible apply arB_sound); exact rfl; omega) | ((with_reducible apply v_aggeql); exact rfl; exact rfl; exact rfl; kernel_rfl; kernel_rfl; kernel_rfl; kernel_rfl) | ((with_reducible apply v_aggneq); exact rfl; exact rfl; exact rfl; kernel_rfl; kernel_rfl; kernel_rfl; kernel_rfl) | ((with_reducible apply v_len_row 0); exact rfl; exact rfl; exact rfl) | ((with_reducible apply v_len_row 1); exact rfl; exact rfl; exact rfl) | ((with_reducible apply v_len_row 2); exact rfl; exact rfl; exact rfl) | ((with_reducible apply v_len_row 3); exact rfl; exact rfl; exact rfl) | ((with_reducible apply v_slice_arr); exact rfl; exact rfl; exact rfl))) | ((with_reducible apply s_g_st); exact rfl; exact rfl; (repeat first | with_reducible exact ones_nil | ((with_reducible apply ones_cons); (first | exact rfl | assumption))); (repeat first | with_reducible apply upb_hd | with_reducible apply upb_tl); exact rfl; (repeat first | with_reducible exact pc_nil | with_reducible apply pc_cons)) | ((with_reducible apply s_gq_block_other); exact rfl) | fail) : B := f h
theorem KG {A B : Prop} (h : A)
    (f : FStep A B := by (with_reducible apply s_g_if); exact rfl; (fail_if_success (with_reducible show NLit true)); (fail_if_success (with_reducible show NLit false)); exact nLit _) : B := f h
theorem KB {A B C : Prop} (h1 : A) (h2 : B)
    (f : FStep (A ∧ B) C := by with_reducible (first | exact s2_dec | exact s2_b | fail)) : C := f ⟨h1, h2⟩
theorem NB {A : Nat → Prop} {B : Prop} (h : ∀ b, A b)
    (f : FStep (∀ b, A b) B := by first | ((with_reducible apply s_g_nw); exact rfl; exact rfl; exact rfl) | ((with_reducible apply s_g_bs); exact rfl; exact rfl; exact rfl) | fail) : B := f h
def VStep (_ : Nat) (B : Prop) : Prop := B
theorem E1 {i : Nat} {v : Value} (h : pstepAt P X.n ops l i = some (d, v)) (hk : drawOk ops listed i = true) (hQ : ∀ c a w, Q (.panic c) (Act.put a (some d) v) w → Q (.panic c) a w) :
    DStep i (GA P X μr Lr ops Q fuel (listed.setIfInBounds i true) μ ((d, v) :: l) L) (GA P X μr Lr ops Q (fuel + 1) listed μ l L) := fun hg => ga_p (i := i) (h := h) (hk := hk) (hQ := hQ) (hg := hg)
theorem E2 {i : Nat} {v : Value} (h : pdstAt X.n ops l i = some (d, o)) (hk : drawOk ops listed i = true) (hQ : ∀ c a w, Q (.panic c) (Act.put a (some d) v) w → Q (.panic c) a w) (hv : Val P μr l Lr o v) :
    DStep i (GA P X μr Lr ops Q fuel (listed.setIfInBounds i true) μ ((d, v) :: l) L) (GA P X μr Lr ops Q (fuel + 1) listed μ l L) := fun hg => ga_v (i := i) (h := h) (hk := hk) (hQ := hQ) (hv := hv) (hg := hg)
theorem E3 {i : Nat} {v : Value} (hr : Region.ready .any ops listed = [i]) (ho : nthO ops.toList i = some o) (hd : o.dst = some d) (hn : Nat.blt d X.n = true) (hw : wants ops l o = some true) (hv : Val P μ l L o v) :
    DStep i (GA P X μr Lr ops Q fuel (listed.setIfInBounds i true) μ ((d, v) :: l) L) (GA P X μr Lr ops Q (fuel + 1) listed μ l L) := fun h => ga_all1 i hr (gaop_val ho hd hn hw hv h)
theorem DD (i : Nat) {A B : Prop} (h : A)
    (f : DStep i A B := by first | ((with_reducible apply E1); exact rfl; kernel_rfl; (exact fun _ _ _ h => h)) | ((with_reducible apply E2); exact rfl; kernel_rfl; (exact fun _ _ _ h => h); (first | ((with_reducible apply pv_sound); exact rfl) | ((with_reducible apply v_field_n); exact rfl; exact rfl) | ((with_reducible apply v_index_n); exact rfl; exact rfl; exact rfl; exact rfl; omega) | ((with_reducible apply v_ld); exact rfl; (repeat first | with_reducible exact inb_hd | with_reducible apply inb_tl); exact rfl) | ((with_reducible apply v_sindex_n); exact rfl; exact rfl; exact rfl; omega) | ((with_reducible apply v_fieldv); exact rfl; exact rfl) | ((with_reducible apply v_neg_i); exact rfl; omega) | ((with_reducible apply v_max2); exact rfl; exact rfl) | ((with_reducible apply v_min2); exact rfl; exact rfl) | ((with_reducible apply v_quo_i); exact rfl; exact rfl; (first | omega | with_reducible assumption); (first | omega | with_reducible assumption)) | ((with_reducible apply v_rem); exact rfl; exact rfl; (first | omega | with_reducible assumption)) | ((with_reducible apply v_conv_int); exact rfl; exact rfl; exact rfl; omega) | ((with_reducible apply arB_sound); exact rfl; omega) | ((with_reducible apply v_aggeql); exact rfl; exact rfl; exact rfl; kernel_rfl; kernel_rfl; kernel_rfl; kernel_rfl) | ((with_reducible apply v_aggneq); exact rfl; exact rfl; exact rfl; kernel_rfl; kernel_rfl; kernel_rfl; kernel_rfl) | ((with_reducible apply v_len_row 0); exact rfl; exact rfl; exact rfl) | ((with_reducible apply v_len_row 1); exact rfl; exact rfl; exact rfl) | ((with_reducible apply v_len_row 2); exact rfl; exact rfl; exact rfl) | ((with_reducible apply v_len_row 3); exact rfl; exact rfl; exact rfl) | ((with_reducible apply v_slice_arr); exact rfl; exact rfl; exact rfl) | ((with_reducible apply arI_sound); exact rfl; omega))) | ((with_reducible apply E3); kernel_rfl; exact rfl; exact rfl; exact rfl; exact rfl; (first | ((with_reducible apply pv_sound); exact rfl) | ((with_reducible apply v_field_n); exact rfl; exact rfl) | ((with_reducible apply v_index_n); exact rfl; exact rfl; exact rfl; exact rfl; omega) | ((with_reducible apply v_ld); exact rfl; (repeat first | with_reducible exact inb_hd | with_reducible apply inb_tl); exact rfl) | ((with_reducible apply v_sindex_n); exact rfl; exact rfl; exact rfl; omega) | ((with_reducible apply v_fieldv); exact rfl; exact rfl) | ((with_reducible apply v_neg_i); exact rfl; omega) | ((with_reducible apply v_max2); exact rfl; exact rfl) | ((with_reducible apply v_min2); exact rfl; exact rfl) | ((with_reducible apply v_quo_i); exact rfl; exact rfl; (first | omega | with_reducible assumption); (first | omega | with_reducible assumption)) | ((with_reducible apply v_rem); exact rfl; exact rfl; (first | omega | with_reducible assumption)) | ((with_reducible apply v_conv_int); exact rfl; exact rfl; exact rfl; omega) | ((with_reducible apply arB_sound); exact rfl; omega) | ((with_reducible apply v_aggeql); exact rfl; exact rfl; exact rfl; kernel_rfl; kernel_rfl; kernel_rfl; kernel_rfl) | ((with_reducible apply v_aggneq); exact rfl; exact rfl; exact rfl; kernel_rfl; kernel_rfl; kernel_rfl; kernel_rfl) | ((with_reducible apply v_len_row 0); exact rfl; exact rfl; exact rfl) | ((with_reducible apply v_len_row 1); exact rfl; exact rfl; exact rfl) | ((with_reducible apply v_len_row 2); exact rfl; exact rfl; exact rfl) | ((with_reducible apply v_len_row 3); exact rfl; exact rfl; exact rfl) | ((with_reducible apply v_slice_arr); exact rfl; exact rfl; exact rfl) | ((with_reducible apply arI_sound); exact rfl; omega))) | fail) : B := f h
theorem X1 {k : Nat} {p q : Operand} {t e : TypeId} {A : Addr} {len cap n : Nat} {i : Int} (ht : P.underlying t = some (.slice e)) (hs : sizeT P e = some n) (hx0 : ev l p = some (.slice (some A) len cap)) (hx1 : ev l q = some (.int .i64 i)) (hi : i = (k : Int)) (hk : k < len) :
    VStep k (Val P μ l L ⟨ds, .indexAddr t p q, ty, pos, af, gd⟩ (.pointer (some (A.add (k * n))))) := v_index (k := k) (ht := ht) (hs := hs) (hx0 := hx0) (hx1 := hx1) (hi := hi) (hk := hk)
theorem U1 (k : Nat) {B : Prop} (f : VStep k B := by (with_reducible apply X1); exact rfl; exact rfl; exact rfl; exact rfl; (first | exact rfl | omega); omega) : B := f
theorem U4 {M B : Prop} (hm : M) (f : M → B := by intro h; first | ((with_reducible apply v_load_shs); exact rfl; exact rfl; exact rfl; exact h; exact rfl) | ((with_reducible apply v_ld_sh); exact rfl; exact rfl; exact rfl; exact h; exact rfl) | fail) : B := f hm
theorem PU {l l' : Slots} (h : SubS l' l := by first | (repeat first | exact subS_nil | refine subS_cons rfl ?_); done | fail) : SubS l' l := h
theorem PS {L L' : List Bk} (h : Sel L' L := by first | (repeat first | exact Sel.nil _ | (refine sel_0 ?_ ?_; focus (first | exact BkLe.refl _ | (refine BkLe.cells ?_; repeat first | exact subS_nil | refine subS_cons rfl ?_))) | (refine sel_1 ?_ ?_; focus (first | exact BkLe.refl _ | (refine BkLe.cells ?_; repeat first | exact subS_nil | refine subS_cons rfl ?_))) | (refine sel_2 ?_ ?_; focus (first | exact BkLe.refl _ | (refine BkLe.cells ?_; repeat first | exact subS_nil | refine subS_cons rfl ?_))) | (refine sel_3 ?_ ?_; focus (first | exact BkLe.refl _ | (refine BkLe.cells ?_; repeat first | exact subS_nil | refine subS_cons rfl ?_))) | (refine sel_4 ?_ ?_; focus (first | exact BkLe.refl _ | (refine BkLe.cells ?_; repeat first | exact subS_nil | refine subS_cons rfl ?_))) | (refine sel_5 ?_ ?_; focus (first | exact BkLe.refl _ | (refine BkLe.cells ?_; repeat first | exact subS_nil | refine subS_cons rfl ?_))) | (refine sel_6 ?_ ?_; focus (first | exact BkLe.refl _ | (refine BkLe.cells ?_; repeat first | exact subS_nil | refine subS_cons rfl ?_))) | (refine sel_7 ?_ ?_; focus (first | exact BkLe.refl _ | (refine BkLe.cells ?_; repeat first | exact subS_nil | refine subS_cons rfl ?_))) | (refine sel_8 ?_ ?_; focus (first | exact BkLe.refl _ | (refine BkLe.cells ?_; repeat first | exact subS_nil | refine subS_cons rfl ?_)))); done | fail) : Sel L' L := h
theorem CF (f : FuncId) {qs : Array Operand} {ts : Array TypeId} (h : G P X ops Q (⟨ds, .call { callee := .value (.func f), args := qs, argTypes := ts }, ty, pos, af, gd⟩ :: rest) μ l L) : G P X ops Q (⟨ds, .call { callee := .value (.func f), args := qs, argTypes := ts }, ty, pos, af, gd⟩ :: rest) μ l L := h
theorem DV {v : Value}
    (k : Nat)
    (h1 : pdstAt X.n ops l k = some (d, o) := by first | exact rfl | fail)
    (h2 : drawOk ops listed k = true := by first | kernel_rfl | fail)
    (h3 : ∀ c a w, Q (.panic c) (Act.put a (some d) v) w → Q (.panic c) a w := by exact fun _ _ _ h => h)
    (b : Val P μr l Lr o v)
    (c : GA P X μr Lr ops Q fuel (listed.setIfInBounds k true) μ ((d, v) :: l) L) :
    GA P X μr Lr ops Q (fuel + 1) listed μ l L := ga_v (i := k) (h := h1) (hk := h2) (hQ := h3) (hv := b) (hg := c)
theorem DW {i : Nat} {v : Value}
    (ho : nthO ops.toList i = some o := by first | exact rfl | fail)
    (hd : o.dst = some d := by first | exact rfl | fail)
    (hn : Nat.blt d X.n = true := by first | exact rfl | fail)
    (hw : wants ops l o = some true := by first | exact rfl | fail)
    (b : Val P μ l L o v)
    (c : GA P X μr Lr ops Q fuel (listed.setIfInBounds i true) μ ((d, v) :: l) L) :
    GAop P X μr Lr ops Q fuel listed i μ l L := gaop_val (ho := ho) (hd := hd) (hn := hn) (hw := hw) (hv := b) (h := c)
theorem KV {v : Value}
    (hd : pdst X.n ops l o = some d := by first | exact rfl | fail)
    (b : Val P μ l L o v)
    (c : G P X ops Q rest μ ((d, v) :: l) L) :
    G P X ops Q (o :: rest) μ l L := g_v (hd := hd) (hr := b) (h := c)
end
end
end Go.Vcg
namespace Go.Proofs.YtccbkihnedpjcaaDoor
end Go.Proofs.YtccbkihnedpjcaaDoor
