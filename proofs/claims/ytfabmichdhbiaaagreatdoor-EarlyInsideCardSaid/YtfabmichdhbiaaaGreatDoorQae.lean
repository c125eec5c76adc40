/- A callee that borrows blocks of its caller's: it may change them, and gives them (or others) back. (and what leans on it). No statement of the seat is proved here. -/
import Derived.Test.YtfabmichdhbiaaaGreatDoorQad
import Derived.Lib.ItoaNum
import Derived.Lib.Join
set_option maxRecDepth 20000
namespace Go.Vcg
open Go.RowKit
def idsOf : List Bk → List Nat
  | [] => []
  | x :: r => match Bk.id x with
    | some b => b :: idsOf r
    | none => idsOf r
theorem mem_idsOf {L : List Bk} {b : Nat} : b ∈ idsOf L ↔ ∃ x ∈ L, Bk.id x = some b := by
  induction L with
  | nil => simp [idsOf]
  | cons y r ih =>
    unfold idsOf
    cases h : Bk.id y with
    | none => simp [ih, h]
    | some c =>
      simp only [List.mem_cons, ih, exists_eq_or_imp, h, Option.some.injEq]
      constructor
      · rintro (rfl | h) <;> simp [*]
      · rintro (rfl | h) <;> simp [*]
structure Own (μ : Mem) (L : List Bk) (w : World) : Prop where
  own : ∀ x ∈ L, Bk.at x w
  priv : ∀ x ∈ L, ∀ b, Bk.id x = some b → μ b = none
  diff : L.Pairwise (fun x y => ∀ b, Bk.id x = some b → Bk.id y ≠ some b)
structure GrowM (M : List Nat) (w w' : World) (μ μ' : Mem) : Prop where
  os : w'.os = w.os
  tape : w'.tape = w.tape
  output : w'.output = w.output
  size : w.heap.size ≤ w'.heap.size
  block : ∀ b, b < w.heap.size → b ∉ M → w'.heap[b]? = w.heap[b]?
  le : MLe μ μ'
  ok : MOk μ' w'
  fresh : ∀ b, b < w.heap.size → b ∉ M → μ b = none → μ' b = none
def BackM (M : List Nat) (w w' : World) (μ : Mem) (L' : List Bk) (μ' : Mem) : Prop :=
  GrowM M w w' μ μ' ∧ Own μ' L' w' ∧ ∀ x ∈ L', ∀ b, Bk.id x = some b → b ∈ M ∨ w.heap.size ≤ b
section
variable {P : Program} {X : Ctx} {ops : Array Oper} {Q : Exit → Act → World → Prop} {rest : List Oper} {μ : Mem} {l : Slots} {L : List Bk} {a : Act} {w : World} {o : Oper} {d : Nat}
theorem St.borrow {LB Lr L' : List Bk} {w' : World} {μ' : Mem} (h : St X μ l (LB ++ Lr) a w) (hb : BackM (idsOf LB) w w' μ L' μ') : St X μ' l (L' ++ Lr) a w' := by
  obtain ⟨hg, ho, hn⟩ := hb
  have hd := List.pairwise_append.1 h.diff
  have hlt : ∀ x ∈ LB ++ Lr, ∀ b, Bk.id x = some b → b < w.heap.size := fun x hx b hb => Bk.lt (h.own x hx) hb
  have hids : ∀ b ∈ idsOf LB, b ∈ X.M ∨ X.w0.heap.size ≤ b := fun b hb => by
    obtain ⟨x, hx, hxb⟩ := mem_idsOf.1 hb
    exact h.new x (List.mem_append_left _ hx) b hxb
  have hr : ∀ x ∈ Lr, ∀ b, Bk.id x = some b → b ∉ idsOf LB := fun x hx b hxb hb => by
    obtain ⟨y, hy, hyb⟩ := mem_idsOf.1 hb
    exact hd.2.2 y hy x hx b hyb hxb
  refine ⟨h.size, h.defers.mono hg.le, h.slots, ⟨hg.os.trans h.keep.os, hg.tape.trans h.keep.tape, hg.output.trans h.keep.output, Nat.le_trans h.keep.size hg.size, fun b hb hM => ?_⟩, hg.ok, h.from0.trans hg.le, fun b hb hM h0 => ?_, fun x hx => ?_, fun x hx b hxb => ?_, fun x hx b hxb => ?_, ?_⟩
  · have : b ∉ idsOf LB := fun hbi => by
      rcases hids b hbi with h1 | h1
      · exact hM h1
      · omega
    rw [hg.block b (Nat.lt_of_lt_of_le hb h.keep.size) this]
    exact h.keep.block b hb hM
  · have : b ∉ idsOf LB := fun hbi => by
      rcases hids b hbi with h1 | h1
      · exact hM h1
      · omega
    exact hg.fresh b (Nat.lt_of_lt_of_le hb h.keep.size) this (h.fresh b hb hM h0)
  · rcases List.mem_append.1 hx with hx | hx
    · exact ho.own x hx
    · exact Bk.keep (h.own x (List.mem_append_right _ hx)) fun b hb => hg.block b (hlt x (List.mem_append_right _ hx) b hb) (hr x hx b hb)
  · rcases List.mem_append.1 hx with hx | hx
    · exact ho.priv x hx b hxb
    · exact hg.fresh b (hlt x (List.mem_append_right _ hx) b hxb) (hr x hx b hxb) (h.priv x (List.mem_append_right _ hx) b hxb)
  · rcases List.mem_append.1 hx with hx | hx
    · rcases hn x hx b hxb with h1 | h1
      · exact hids b h1
      · exact .inr (Nat.le_trans h.keep.size h1)
    · exact h.new x (List.mem_append_right _ hx) b hxb
  · refine List.pairwise_append.2 ⟨ho.diff, hd.2.1, fun x hx y hy b hxb hyb => ?_⟩
    rcases hn x hx b hxb with h1 | h1
    · exact hr y hy b hyb h1
    · have := hlt y (List.mem_append_right _ hy) b hyb
      omega
def splitB : Nat → List Bk → Option (List Bk × List Bk)
  | 0, L => some ([], L)
  | _ + 1, [] => none
  | k + 1, x :: r => match splitB k r with
    | some (a, b) => some (x :: a, b)
    | none => none
theorem splitB_eq : ∀ {k : Nat} {L a b : List Bk}, splitB k L = some (a, b) → L = a ++ b
  | 0, L, a, b, h => by simp [splitB] at h; obtain ⟨rfl, rfl⟩ := h; rfl
  | k + 1, [], a, b, h => by simp [splitB] at h
  | k + 1, x :: r, a, b, h => by
    unfold splitB at h
    split at h
    · rename_i a' b' he
      cases h
      rw [splitB_eq he]
      rfl
    · cases h
theorem g_enter_bor {f : FuncId} {vs : Array Value} {ι : Type} {Ls : ι → List Bk} {Post : Mem → Value → ι → Prop} {LB Lr : List Bk} (k : Nat) (hd : o.dst = some d) (hn : Nat.blt d X.n = true) (hw : wants ops l o = some true) (hr : Ent P μ l L o f vs)
    (hL : splitB k L = some (LB, Lr))
    (hc : ∀ w, MOk μ w → Own μ LB w → Calls P f vs w fun e w' => ∃ v μ' i, e = .returned v ∧ BackM (idsOf LB) w w' μ (Ls i) μ' ∧ Post μ' v i)
    (h : ∀ v μ' i, MLe μ μ' → Post μ' v i → G P X ops Q rest μ' ((d, v) :: l) (Ls i ++ Lr)) : G P X ops Q (o :: rest) μ l L :=
  g_wp hw fun a w hs => by
    unfold Oper.wp
    rw [hr a w hs.rd, Oper.upon_enter]
    have he := splitB_eq hL
    subst he
    have hO : Own μ LB w := ⟨fun x hx => hs.own x (List.mem_append_left _ hx), fun x hx => hs.priv x (List.mem_append_left _ hx), (List.pairwise_append.1 hs.diff).1⟩
    refine (hc w hs.mem hO).mono fun e w' he => ?_
    obtain ⟨v, μ', i, rfl, hb, hp⟩ := he
    show wpList P ops Q rest (a.put o.dst v) w'
    rw [hd]
    exact h v μ' i hb.1.le hp _ _ ((hs.borrow hb).put hn _)
theorem call_introM {f : FuncId} {fn : Func} {c : Code} {args : List Value} {n : Nat} {R : Ending → World → Prop} {LB : List Bk} (hf : P.funcs[f]? = some fn) (hb : fn.body = some c) (hn : fn.ntmps = n) (hsz : args.length ≤ n)
    (hμ : MOk μ w) (hO : Own μ LB w) (h : GC P ⟨w, μ, idsOf LB, n⟩ c (bodyPost P fn R) μ (idx 0 args) LB) : Calls P f args.toArray w R := by
  refine calls_of_wp hf hb (h _ _ ⟨?_, Marks.nil, fun t v hv => ?_, Keep.refl _ _, hμ, MLe.refl _, fun _ _ _ h => h, hO.own, hO.priv, fun x hx b hxb => .inl (mem_idsOf.2 ⟨x, hx, hxb⟩), hO.diff⟩)
  · simp [hn]; omega
  · obtain ⟨_, h2⟩ := lk_idx _ _ _ _ hv
    have hlt : t < args.length := by have := (List.getElem?_eq_some_iff.1 h2).1; simpa using this
    simp only [Nat.sub_zero] at h2
    rw [Array.getElem?_append_left (by simpa using hlt)]
    simpa using h2
theorem St.giveBack {n : Nat} {μ0 : Mem} {w' : World} {M : List Nat} {L' Lr : List Bk} (hs : St ⟨w, μ0, M, n⟩ μ l (L' ++ Lr) a w') : ∃ μ', BackM M w w' μ0 L' μ' ∧ MLe μ μ' := by
  have hd := List.pairwise_append.1 hs.diff
  refine ⟨fun b => if b < w.heap.size then μ b else if b ∈ idsOf L' then none else w'.heap[b]?, ⟨⟨hs.keep.os, hs.keep.tape, hs.keep.output, hs.keep.size, hs.keep.block, fun b o e => ?_, fun b o e => ?_, fun b hb hM h0 => ?_⟩, ⟨fun x hx => hs.own x (List.mem_append_left _ hx), fun x hx b hxb => ?_, hd.1⟩, fun x hx => hs.new x (List.mem_append_left _ hx)⟩, fun b o e => ?_⟩
  · have e2 := hs.from0 b o e
    by_cases hb : b < w.heap.size
    · simp [hb, e2]
    · have : b ∉ idsOf L' := fun hbi => by
        obtain ⟨x, hx, hxb⟩ := mem_idsOf.1 hbi
        rw [hs.priv x (List.mem_append_left _ hx) b hxb] at e2
        cases e2
      simp [hb, this]
      exact hs.mem b o e2
  · by_cases hb : b < w.heap.size
    · simp [hb] at e; exact hs.mem b o e
    · by_cases hbi : b ∈ idsOf L'
      · simp [hb, hbi] at e
      · simp [hb, hbi] at e; exact e
  · simp [hb]; exact hs.fresh b hb hM h0
  · have := hs.priv x (List.mem_append_left _ hx) b hxb
    by_cases hb : b < w.heap.size
    · simp [hb, this]
    · simp [hb, mem_idsOf.2 ⟨x, hx, hxb⟩]
  · by_cases hb : b < w.heap.size
    · simp [hb, e]
    · have : b ∉ idsOf L' := fun hbi => by
        obtain ⟨x, hx, hxb⟩ := mem_idsOf.1 hbi
        rw [hs.priv x (List.mem_append_left _ hx) b hxb] at e
        cases e
      simp [hb, this]
      exact hs.mem b o e
theorem ret_bor {fn : Func} {n : Nat} {r : ResultVar} {v : Value} {μ0 : Mem} {M : List Nat} {ι : Type} {Ls : ι → List Bk} {Post : Mem → Value → ι → Prop} {L' Lr : List Bk} (k : Nat) (i : ι) (hM : ∀ D, M.count D ≤ 1) (hr : fn.results = #[r]) (h : RV P μ l L r v) (hL : splitB k L = some (L', Lr)) (hLs : Ls i = L')
    (hp : ∀ μ', MLe μ μ' → Post μ' v i) :
    GQ ⟨w, μ0, M, n⟩ (bodyPost P fn (fun e w' => ∃ v μ' i, e = .returned v ∧ BackM M w w' μ0 (Ls i) μ' ∧ Post μ' v i)) .ret μ l L := fun a w' hs => by
  have he := splitB_eq hL
  subst he
  obtain ⟨μ', hb, hle⟩ := hs.giveBack
  subst hLs
  exact ⟨hs.defers.none hM, v, results1 hr h hs.rd, v, μ', i, rfl, hb, hp μ' hle⟩
theorem ret_bor0 {fn : Func} {n : Nat} {μ0 : Mem} {M : List Nat} {ι : Type} {Ls : ι → List Bk} {Post : Mem → Value → ι → Prop} {L' Lr : List Bk} {e : Exit} (k : Nat) (i : ι) (he : e = .ret ∨ e = .normal) (hM : ∀ D, M.count D ≤ 1) (hr : fn.results = #[]) (hL : splitB k L = some (L', Lr)) (hLs : Ls i = L')
    (hp : ∀ μ' v, MLe μ μ' → Post μ' v i) :
    GQ ⟨w, μ0, M, n⟩ (bodyPost P fn (fun e w' => ∃ v μ' i, e = .returned v ∧ BackM M w w' μ0 (Ls i) μ' ∧ Post μ' v i)) e μ l L := fun a w' hs => by
  have he' := splitB_eq hL
  subst he'
  obtain ⟨μ', hb, hle⟩ := hs.giveBack
  subst hLs
  have : ∃ v, (results fn a.tmps).run P w' = .ok v w' := by simp [results, hr]
  obtain ⟨v, hv⟩ := this
  rcases he with rfl | rfl
  all_goals exact ⟨hs.defers.none hM, v, hv, v, μ', i, rfl, hb, hp μ' v hle⟩
end
end Go.Vcg
set_option maxRecDepth 20000
namespace Go.Vcg
open Go.RowKit
theorem ids_count : ∀ {L : List Bk}, L.Pairwise (fun x y => ∀ b, Bk.id x = some b → Bk.id y ≠ some b) → ∀ D, (idsOf L).count D ≤ 1
  | [], _, D => by simp [idsOf]
  | x :: r, h, D => by
    obtain ⟨h1, h2⟩ := List.pairwise_cons.1 h
    have ih := ids_count h2 D
    unfold idsOf
    cases hx : Bk.id x with
    | none => exact ih
    | some c =>
      dsimp only
      rw [List.count_cons]
      by_cases hc : c = D
      · subst hc
        have : (idsOf r).count c = 0 := List.count_eq_zero.2 fun hm => by
          obtain ⟨y, hy, hyb⟩ := mem_idsOf.1 hm
          exact h1 y hy c hx hyb
        simp [this]
      · simp [hc]; exact ih
end Go.Vcg
set_option maxRecDepth 20000
namespace Go.Vcg
open Go.RowKit
inductive BkLe : Bk → Bk → Prop
  | refl (x : Bk) : BkLe x x
  | cells {b : Nat} {t : TypeId} {sz : Nat} {cs cs' : Slots} (h : SubS cs' cs) : BkLe (.inl ⟨b, t, sz, cs'⟩) (.inl ⟨b, t, sz, cs⟩)
inductive Sel : List Bk → List Bk → Prop
  | nil (L : List Bk) : Sel [] L
  | cons {x y : Bk} {r a b : List Bk} (h : BkLe x y) (hr : Sel r (a ++ b)) : Sel (x :: r) (a ++ y :: b)
theorem BkLe.id {x y : Bk} (h : BkLe x y) : Bk.id x = Bk.id y := by cases h <;> rfl
theorem BkLe.at {x y : Bk} {w : World} (h : BkLe x y) (hy : Bk.at y w) : Bk.at x w := by
  cases h with
  | refl => exact hy
  | cells h =>
    obtain ⟨arr, h1, h2, h3⟩ := hy
    exact ⟨arr, h1, h2, fun k v hk => h3 k v (h k v hk)⟩
theorem sel_mem {L' L : List Bk} (h : Sel L' L) : ∀ x ∈ L', ∃ y ∈ L, BkLe x y := by
  induction h with
  | nil L => intro x hx; cases hx
  | cons h hr ih =>
    intro z hz
    rcases List.mem_cons.1 hz with rfl | hz
    · exact ⟨_, by simp, h⟩
    · obtain ⟨y, hy, hle⟩ := ih z hz
      refine ⟨y, ?_, hle⟩
      rcases List.mem_append.1 hy with hy | hy <;> simp [hy]
def Df (x y : Bk) : Prop := ∀ b, Bk.id x = some b → Bk.id y ≠ some b
theorem sel_diff {L' L : List Bk} (h : Sel L' L) : L.Pairwise Df → L'.Pairwise Df := by
  induction h with
  | nil L => intro _; exact List.Pairwise.nil
  | @cons x y r a b h hr ih =>
    intro hd
    have hd2 : (y :: (a ++ b)).Pairwise Df := (List.perm_middle.pairwise_iff (fun {_ _} hxy b hb hb' => hxy b hb' hb)).1 hd
    obtain ⟨h1, h2⟩ := List.pairwise_cons.1 hd2
    refine List.pairwise_cons.2 ⟨fun z hz c hc hzc => ?_, ih h2⟩
    obtain ⟨y2, hy2, hle⟩ := sel_mem hr z hz
    exact h1 y2 hy2 c (by rw [← h.id]; exact hc) (by rw [← hle.id]; exact hzc)
section
variable {P : Program} {X : Ctx} {Q : Exit → Act → World → Prop} {μ : Mem} {l : Slots} {L : List Bk} {a : Act} {w : World}
theorem St.sel {l' : Slots} {L' : List Bk} (h : St X μ l L a w) (hl : SubS l' l) (hL : Sel L' L) : St X μ l' L' a w :=
  ⟨h.size, h.defers, fun t v hv => h.slots t v (hl t v hv), h.keep, h.mem, h.from0, h.fresh, fun x hx => let ⟨y, hy, hle⟩ := sel_mem hL x hx; hle.at (h.own y hy), fun x hx b hb => let ⟨y, hy, hle⟩ := sel_mem hL x hx; h.priv y hy b (by rw [← hle.id]; exact hb), fun x hx b hb => let ⟨y, hy, hle⟩ := sel_mem hL x hx; h.new y hy b (by rw [← hle.id]; exact hb), sel_diff hL h.diff⟩
theorem gq_joinS {ι : Type} {J : ι → Prop} {μs : ι → Mem} {ls : ι → Slots} {Ls : ι → List Bk} (j : ι) (hJ : J j) (hμ : μs j = μ) (hl : SubS (ls j) l) (hL : Sel (Ls j) L) :
    GQ X (Exit.then (Join X J μs ls Ls) Q) .normal μ l L := fun a w hs => ⟨j, hJ, by rw [hμ]; exact hs.sel hl hL⟩
theorem gq_backS {ι : Type} {J : ι → Prop} {m : ι → Nat} {μs : ι → Mem} {ls : ι → Slots} {Ls : ι → List Bk} {i : ι} (j : ι) (hJ : J j) (hm : m j < m i) (hμ : μs j = μ) (hl : SubS (ls j) l) (hL : Sel (Ls j) L) :
    GQ X (Exit.then (Back X J m μs ls Ls i) Q) .normal μ l L := fun a w hs => ⟨j, hJ, hm, by rw [hμ]; exact hs.sel hl hL⟩
theorem gc_sel {c : Code} {l' : Slots} {L' : List Bk} (hl : SubS l' l) (hL : Sel L' L) (h : GC P X c Q μ l' L') : GC P X c Q μ l L := fun a w hs => h a w (hs.sel hl hL)
theorem gq_sel {e : Exit} {l' : Slots} {L' : List Bk} (hl : SubS l' l) (hL : Sel L' L) (h : GQ X Q e μ l' L') : GQ X Q e μ l L := fun a w hs => h a w (hs.sel hl hL)
theorem sel_0 {x y : Bk} {r L : List Bk} (h : BkLe x y) (hr : Sel r (L)) : Sel (x :: r) (y :: L) := Sel.cons (a := []) h hr
theorem sel_1 {x y : Bk} {y0 : Bk} {r L : List Bk} (h : BkLe x y) (hr : Sel r (y0 :: L)) : Sel (x :: r) (y0 :: y :: L) := Sel.cons (a := [y0]) h hr
theorem sel_2 {x y : Bk} {y0 y1 : Bk} {r L : List Bk} (h : BkLe x y) (hr : Sel r (y0 :: y1 :: L)) : Sel (x :: r) (y0 :: y1 :: y :: L) := Sel.cons (a := [y0, y1]) h hr
theorem sel_3 {x y : Bk} {y0 y1 y2 : Bk} {r L : List Bk} (h : BkLe x y) (hr : Sel r (y0 :: y1 :: y2 :: L)) : Sel (x :: r) (y0 :: y1 :: y2 :: y :: L) := Sel.cons (a := [y0, y1, y2]) h hr
theorem sel_4 {x y : Bk} {y0 y1 y2 y3 : Bk} {r L : List Bk} (h : BkLe x y) (hr : Sel r (y0 :: y1 :: y2 :: y3 :: L)) : Sel (x :: r) (y0 :: y1 :: y2 :: y3 :: y :: L) := Sel.cons (a := [y0, y1, y2, y3]) h hr
theorem sel_5 {x y : Bk} {y0 y1 y2 y3 y4 : Bk} {r L : List Bk} (h : BkLe x y) (hr : Sel r (y0 :: y1 :: y2 :: y3 :: y4 :: L)) : Sel (x :: r) (y0 :: y1 :: y2 :: y3 :: y4 :: y :: L) := Sel.cons (a := [y0, y1, y2, y3, y4]) h hr
theorem sel_6 {x y : Bk} {y0 y1 y2 y3 y4 y5 : Bk} {r L : List Bk} (h : BkLe x y) (hr : Sel r (y0 :: y1 :: y2 :: y3 :: y4 :: y5 :: L)) : Sel (x :: r) (y0 :: y1 :: y2 :: y3 :: y4 :: y5 :: y :: L) := Sel.cons (a := [y0, y1, y2, y3, y4, y5]) h hr
theorem sel_7 {x y : Bk} {y0 y1 y2 y3 y4 y5 y6 : Bk} {r L : List Bk} (h : BkLe x y) (hr : Sel r (y0 :: y1 :: y2 :: y3 :: y4 :: y5 :: y6 :: L)) : Sel (x :: r) (y0 :: y1 :: y2 :: y3 :: y4 :: y5 :: y6 :: y :: L) := Sel.cons (a := [y0, y1, y2, y3, y4, y5, y6]) h hr
theorem sel_8 {x y : Bk} {y0 y1 y2 y3 y4 y5 y6 y7 : Bk} {r L : List Bk} (h : BkLe x y) (hr : Sel r (y0 :: y1 :: y2 :: y3 :: y4 :: y5 :: y6 :: y7 :: L)) : Sel (x :: r) (y0 :: y1 :: y2 :: y3 :: y4 :: y5 :: y6 :: y7 :: y :: L) := Sel.cons (a := [y0, y1, y2, y3, y4, y5, y6, y7]) h hr
theorem updB_id : ∀ {L : List Bk} {i : Nat} {x : Bk}, nthB L i = some x → updB L i x = L
  | [], _, _, h => by simp [nthB] at h
  | y :: r, 0, x, h => by simp [nthB] at h; simp [updB, h]
  | y :: r, i + 1, x, h => by simp only [updB]; rw [updB_id (i := i) (by simpa [nthB] using h)]
theorem St.rowEq {i : Nat} {v : Value} {e s n n' : Nat} {xs xs' : List Value} (h : St X μ l L a w) (hi : nthB L i = some (.inr ⟨v, e, s, n, xs⟩)) (hn : n = n') (hx : xs = xs') : St X μ l (updB L i (.inr ⟨v, e, s, n', xs'⟩)) a w := by
  subst hn hx
  rw [updB_id hi]
  exact h
theorem gq_rowEq {ex : Exit} {v : Value} {e s n n' : Nat} {xs xs' : List Value} (i : Nat) (hi : nthB L i = some (.inr ⟨v, e, s, n, xs⟩)) (hn : n = n') (hx : xs = xs') (h : GQ X Q ex μ l (updB L i (.inr ⟨v, e, s, n', xs'⟩))) : GQ X Q ex μ l L := fun a w hs => h a w (hs.rowEq hi hn hx)
def GCs (P : Program) (X : Ctx) (c : Code) (Q : Exit → Act → World → Prop) (μ : Mem) (l : Slots) (L : List Bk) : Prop := GC P X c Q μ l L
theorem gc_stop {c : Code} (h : GCs P X c Q μ l L) : GC P X c Q μ l L := h
theorem gcs {c : Code} (h : GC P X c Q μ l L) : GCs P X c Q μ l L := h
end
end Go.Vcg
set_option maxRecDepth 20000
namespace Go.Vcg
open Go.RowKit
section
variable {P : Program} {X : Ctx} {ops : Array Oper} {Q : Exit → Act → World → Prop} {rest : List Oper} {μ μr : Mem} {l : Slots} {L Lr : List Bk} {a : Act} {w : World} {o : Oper} {d fuel i : Nat} {listed : Array Bool}
variable {ty : TypeId} {pos : String} {af : Array Edge} {gd : Option (Nat × Bool)} {ds : Option Nat}
theorem Y0 {b off : Nat} {vs : List Value} {L' : List Bk} (hg : G P X ops Q rest μ l L')
    (hd : pnone ops l o = true := by first | exact rfl | fail)
    (h : stop P l o.op = some (b, off, vs) := by first | exact rfl | fail)
    (h1 : Ones vs := by first | (repeat first | with_reducible exact ones_nil | ((with_reducible apply ones_cons); (first | exact rfl | assumption))); done | fail)
    (hu : UpB L b off vs L' := by first | (repeat first | with_reducible apply upb_hd | with_reducible apply upb_tl); exact rfl; (repeat first | with_reducible exact pc_nil | with_reducible apply pc_cons); done | fail) :
    G P X ops Q (o :: rest) μ l L := g_st (hd := hd) (h := h) (h1 := h1) (hu := hu) (hg := hg)
theorem J1 {ι : Type} {J : ι → Prop} {μs : ι → Mem} {ls : ι → Slots} {Ls : ι → List Bk} (j : ι) (hJ : J j)
    (hμ : μs j = μ := by first | exact rfl | fail)
    (hl : SubS (ls j) l := by first | (repeat first | exact subS_nil | refine subS_cons rfl ?_); done | fail)
    (hL : Sel (Ls j) L := by first | (repeat first | exact Sel.nil _ | (refine sel_0 ?_ ?_; focus (first | exact BkLe.refl _ | (refine BkLe.cells ?_; repeat first | exact subS_nil | refine subS_cons rfl ?_))) | (refine sel_1 ?_ ?_; focus (first | exact BkLe.refl _ | (refine BkLe.cells ?_; repeat first | exact subS_nil | refine subS_cons rfl ?_))) | (refine sel_2 ?_ ?_; focus (first | exact BkLe.refl _ | (refine BkLe.cells ?_; repeat first | exact subS_nil | refine subS_cons rfl ?_))) | (refine sel_3 ?_ ?_; focus (first | exact BkLe.refl _ | (refine BkLe.cells ?_; repeat first | exact subS_nil | refine subS_cons rfl ?_))) | (refine sel_4 ?_ ?_; focus (first | exact BkLe.refl _ | (refine BkLe.cells ?_; repeat first | exact subS_nil | refine subS_cons rfl ?_))) | (refine sel_5 ?_ ?_; focus (first | exact BkLe.refl _ | (refine BkLe.cells ?_; repeat first | exact subS_nil | refine subS_cons rfl ?_))) | (refine sel_6 ?_ ?_; focus (first | exact BkLe.refl _ | (refine BkLe.cells ?_; repeat first | exact subS_nil | refine subS_cons rfl ?_))) | (refine sel_7 ?_ ?_; focus (first | exact BkLe.refl _ | (refine BkLe.cells ?_; repeat first | exact subS_nil | refine subS_cons rfl ?_))) | (refine sel_8 ?_ ?_; focus (first | exact BkLe.refl _ | (refine BkLe.cells ?_; repeat first | exact subS_nil | refine subS_cons rfl ?_)))); done | fail) :
    GQ X (Exit.then (Join X J μs ls Ls) Q) .normal μ l L := gq_joinS (j := j) (hJ := hJ) (hμ := hμ) (hl := hl) (hL := hL)
theorem J2 {ι : Type} {J : ι → Prop} {m : ι → Nat} {μs : ι → Mem} {ls : ι → Slots} {Ls : ι → List Bk} {i : ι} (j : ι) (hJ : J j) (hm : m j < m i)
    (hμ : μs j = μ := by first | exact rfl | fail)
    (hl : SubS (ls j) l := by first | (repeat first | exact subS_nil | refine subS_cons rfl ?_); done | fail)
    (hL : Sel (Ls j) L := by first | (repeat first | exact Sel.nil _ | (refine sel_0 ?_ ?_; focus (first | exact BkLe.refl _ | (refine BkLe.cells ?_; repeat first | exact subS_nil | refine subS_cons rfl ?_))) | (refine sel_1 ?_ ?_; focus (first | exact BkLe.refl _ | (refine BkLe.cells ?_; repeat first | exact subS_nil | refine subS_cons rfl ?_))) | (refine sel_2 ?_ ?_; focus (first | exact BkLe.refl _ | (refine BkLe.cells ?_; repeat first | exact subS_nil | refine subS_cons rfl ?_))) | (refine sel_3 ?_ ?_; focus (first | exact BkLe.refl _ | (refine BkLe.cells ?_; repeat first | exact subS_nil | refine subS_cons rfl ?_))) | (refine sel_4 ?_ ?_; focus (first | exact BkLe.refl _ | (refine BkLe.cells ?_; repeat first | exact subS_nil | refine subS_cons rfl ?_))) | (refine sel_5 ?_ ?_; focus (first | exact BkLe.refl _ | (refine BkLe.cells ?_; repeat first | exact subS_nil | refine subS_cons rfl ?_))) | (refine sel_6 ?_ ?_; focus (first | exact BkLe.refl _ | (refine BkLe.cells ?_; repeat first | exact subS_nil | refine subS_cons rfl ?_))) | (refine sel_7 ?_ ?_; focus (first | exact BkLe.refl _ | (refine BkLe.cells ?_; repeat first | exact subS_nil | refine subS_cons rfl ?_))) | (refine sel_8 ?_ ?_; focus (first | exact BkLe.refl _ | (refine BkLe.cells ?_; repeat first | exact subS_nil | refine subS_cons rfl ?_)))); done | fail) :
    GQ X (Exit.then (Back X J m μs ls Ls i) Q) .normal μ l L := gq_backS (j := j) (hJ := hJ) (hm := hm) (hμ := hμ) (hl := hl) (hL := hL)
theorem J4 {ι : Type} {J : ι → Prop} {m : ι → Nat} {μs : ι → Mem} {ls : ι → Slots} {Ls : ι → List Bk} {i : ι} (j : ι) (hJ : J j) (hm : m j < m i)
    (hμ : μs j = μ := by first | exact rfl | fail)
    (hl : SubS (ls j) l := by first | (repeat first | exact subS_nil | refine subS_cons rfl ?_); done | fail)
    (hL : (Ls j).Sublist L := by first | (repeat first | exact List.Sublist.refl _ | exact List.nil_sublist _ | refine List.Sublist.cons_cons _ ?_ | refine List.Sublist.cons _ ?_); done | fail) :
    GQ X (Exit.then (Back X J m μs ls Ls i) Q) .normal μ l L := gq_back (j := j) (hJ := hJ) (hm := hm) (hμ := hμ) (hl := hl) (hL := hL)
theorem J5 {l' : Slots} {L' : List Bk} (h : St X μ l L a w)
    (hl : SubS l' l := by first | (repeat first | exact subS_nil | refine subS_cons rfl ?_); done | fail)
    (hL : Sel L' L := by first | (repeat first | exact Sel.nil _ | (refine sel_0 ?_ ?_; focus (first | exact BkLe.refl _ | (refine BkLe.cells ?_; repeat first | exact subS_nil | refine subS_cons rfl ?_))) | (refine sel_1 ?_ ?_; focus (first | exact BkLe.refl _ | (refine BkLe.cells ?_; repeat first | exact subS_nil | refine subS_cons rfl ?_))) | (refine sel_2 ?_ ?_; focus (first | exact BkLe.refl _ | (refine BkLe.cells ?_; repeat first | exact subS_nil | refine subS_cons rfl ?_))) | (refine sel_3 ?_ ?_; focus (first | exact BkLe.refl _ | (refine BkLe.cells ?_; repeat first | exact subS_nil | refine subS_cons rfl ?_))) | (refine sel_4 ?_ ?_; focus (first | exact BkLe.refl _ | (refine BkLe.cells ?_; repeat first | exact subS_nil | refine subS_cons rfl ?_))) | (refine sel_5 ?_ ?_; focus (first | exact BkLe.refl _ | (refine BkLe.cells ?_; repeat first | exact subS_nil | refine subS_cons rfl ?_))) | (refine sel_6 ?_ ?_; focus (first | exact BkLe.refl _ | (refine BkLe.cells ?_; repeat first | exact subS_nil | refine subS_cons rfl ?_))) | (refine sel_7 ?_ ?_; focus (first | exact BkLe.refl _ | (refine BkLe.cells ?_; repeat first | exact subS_nil | refine subS_cons rfl ?_))) | (refine sel_8 ?_ ?_; focus (first | exact BkLe.refl _ | (refine BkLe.cells ?_; repeat first | exact subS_nil | refine subS_cons rfl ?_)))); done | fail) :
    St X μ l' L' a w := St.sel (h := h) (hl := hl) (hL := hL)
theorem J6 {X : Ctx} {μ : Mem} {l l' : Slots} {L L' : List Bk} {a : Act} {w : World} (h : St X μ l L a w)
    (hl : SubS l' l := by first | (repeat first | exact subS_nil | refine subS_cons rfl ?_); done | fail)
    (hL : L'.Sublist L := by first | (repeat first | exact List.Sublist.refl _ | exact List.nil_sublist _ | refine List.Sublist.cons_cons _ ?_ | refine List.Sublist.cons _ ?_); done | fail) :
    St X μ l' L' a w := St.sub (h := h) (hl := hl) (hL := hL)
theorem D1 {v : Value} (i : Nat) (hg : GA P X μr Lr ops Q fuel (listed.setIfInBounds i true) μ ((d, v) :: l) L)
    (h : pstepAt P X.n ops l i = some (d, v) := by first | exact rfl | fail)
    (hk : drawOk ops listed i = true := by first | kernel_rfl | fail)
    (hQ : ∀ c a w, Q (.panic c) (Act.put a (some d) v) w → Q (.panic c) a w := by exact fun _ _ _ h => h) :
    GA P X μr Lr ops Q (fuel + 1) listed μ l L := ga_p (i := i) (h := h) (hk := hk) (hQ := hQ) (hg := hg)
theorem D3  (i : Nat) (h : GAop P X μr Lr ops Q fuel listed i μ l L)
    (hr : Region.ready .any ops listed = [i] := by first | kernel_rfl | fail) :
    GA P X μr Lr ops Q (fuel + 1) listed μ l L := ga_all1 (i := i) (hr := hr) (h := h)
theorem D5  (h : G P X ops (QA Q (fun a w => Sm μr Lr w ∧ wpAnyH P .any ops Q (Sm μr Lr) fuel (listed.setIfInBounds i true) a w)) [o] μ l L)
    (ho : nthO ops.toList i = some o := by first | exact rfl | fail) :
    GAop P X μr Lr ops Q fuel listed i μ l L := gaop_g (ho := ho) (h := h)
theorem D6 {i : Nat} (h : GA P X μr Lr ops Q fuel (listed.setIfInBounds i true) μ ((d, undef) :: l) L)
    (ho : nthO ops.toList i = some o := by first | exact rfl | fail)
    (hd : o.dst = some d := by first | exact rfl | fail)
    (hn : Nat.blt d X.n = true := by first | exact rfl | fail)
    (hw : wants ops l o = some false := by first | exact rfl | fail) :
    GAop P X μr Lr ops Q fuel listed i μ l L := gaop_skip (ho := ho) (hd := hd) (hn := hn) (hw := hw) (h := h)
theorem D7 {t : Nat} {b : Bool} (i : Nat) (hg : PIf b (GA P X μr Lr ops Q fuel listed μ ((t, .bool true) :: l) L) (GA P X μr Lr ops Q fuel listed μ ((t, .bool false) :: l) L))
    (ho : nthO ops.toList i = some o := by first | exact rfl | fail)
    (h : gtest ops l o = some (t, b) := by first | exact rfl | fail)
    (hb : NLit b := by (fail_if_success (with_reducible show NLit true)); (fail_if_success (with_reducible show NLit false)); exact nLit _) :
    GA P X μr Lr ops Q fuel listed μ l L := ga_if (i := i) (ho := ho) (h := h) (hb := hb) (hg := hg)
theorem D8  (h : GQ X Q .normal μ l L)
    (hr : Region.ready .any ops listed = [] := by first | kernel_rfl | fail) :
    GA P X μr Lr ops Q fuel listed μ l L := ga_done (hr := hr) (h := h)
theorem D9  (h : GA P X μr Lr ops Q fuel listed μ l L)
    (hle : MLe μr μ := by first | exact MLe.refl _ | assumption | (focus (repeat (first | exact MLe.refl _ | assumption | (apply MLe.trans; rotate_left; assumption)))); done | fail)
    (hLr : Lr.Sublist L := by first | (repeat first | exact List.Sublist.refl _ | exact List.nil_sublist _ | refine List.Sublist.cons_cons _ ?_ | refine List.Sublist.cons _ ?_); done | fail) :
    G P X ops (QA Q (fun a w => Sm μr Lr w ∧ wpAnyH P .any ops Q (Sm μr Lr) fuel listed a w)) [] μ l L := g_ga_nil (hle := hle) (hLr := hLr) (h := h)
theorem EN {A : Prop} (h : A := by first | ((with_reducible apply e_call0); kernel_rfl) | ((with_reducible apply e_call1); kernel_rfl; exact rfl) | ((with_reducible apply e_call2); kernel_rfl; exact rfl; exact rfl) | ((with_reducible apply e_call3); kernel_rfl; exact rfl; exact rfl; exact rfl) | ((with_reducible apply e_call4); kernel_rfl; exact rfl; exact rfl; exact rfl; exact rfl) | ((with_reducible apply e_call5); kernel_rfl; exact rfl; exact rfl; exact rfl; exact rfl; exact rfl) | ((with_reducible apply e_call6); kernel_rfl; exact rfl; exact rfl; exact rfl; exact rfl; exact rfl; exact rfl) | ((with_reducible apply e_callv0); exact rfl; (first | assumption | kernel_rfl)) | ((with_reducible apply e_callv1); exact rfl; (first | assumption | kernel_rfl); exact rfl) | ((with_reducible apply e_callv2); exact rfl; (first | assumption | kernel_rfl); exact rfl; exact rfl) | fail) : A := h
theorem C1  {f : FuncId} {vs : Array Value} {v : Value} (hd : pdst X.n ops l o = some d) (hr : Ent P μ l L o f vs) (hc : ∀ w μc, MOk μc w → Sees μc μ L → Calls P f vs w fun e w' => e = .returned v ∧ Below w.heap.size w w') (h : G P X ops Q rest μ ((d, v) :: l) L) :
    G P X ops Q (o :: rest) μ l L := by
  obtain ⟨h1, h2, h3⟩ := pdst_spec hd
  exact g_enter_s (hd := h1) (hn := h2) (hw := h3) (hr := hr) (hc := hc) (h := h)
theorem F1 (f : FuncId) {qs : Array Operand} {ts : Array TypeId} {vs : Array Value} {v : Value} (hd : pdst X.n ops l ⟨ds, .call { callee := .value (.func f), args := qs, argTypes := ts }, ty, pos, af, gd⟩ = some d) (hr : Ent P μ l L ⟨ds, .call { callee := .value (.func f), args := qs, argTypes := ts }, ty, pos, af, gd⟩ f vs) (hc : ∀ w μc, MOk μc w → Sees μc μ L → Calls P f vs w fun e w' => e = .returned v ∧ Below w.heap.size w w') (h : G P X ops Q rest μ ((d, v) :: l) L) :
    G P X ops Q (⟨ds, .call { callee := .value (.func f), args := qs, argTypes := ts }, ty, pos, af, gd⟩ :: rest) μ l L := by
  obtain ⟨h1, h2, h3⟩ := pdst_spec hd
  exact g_enter_s (hd := h1) (hn := h2) (hw := h3) (hr := hr) (hc := hc) (h := h)
theorem F2 (f : FuncId) {qs : Array Operand} {ts : Array TypeId} {vs : Array Value} {Post : Mem → Value → Prop} (hd : pdst X.n ops l ⟨ds, .call { callee := .value (.func f), args := qs, argTypes := ts }, ty, pos, af, gd⟩ = some d) (hr : Ent P μ l L ⟨ds, .call { callee := .value (.func f), args := qs, argTypes := ts }, ty, pos, af, gd⟩ f vs) (hc : ∀ w, MOk μ w → Calls P f vs w fun e w' => ∃ v μ', e = .returned v ∧ Grow w w' μ μ' ∧ Post μ' v) (h : ∀ v μ', MLe μ μ' → Post μ' v → G P X ops Q rest μ' ((d, v) :: l) L) :
    G P X ops Q (⟨ds, .call { callee := .value (.func f), args := qs, argTypes := ts }, ty, pos, af, gd⟩ :: rest) μ l L := by
  obtain ⟨h1, h2, h3⟩ := pdst_spec hd
  exact g_enter_m (hd := h1) (hn := h2) (hw := h3) (hr := hr) (hc := hc) (h := h)
theorem F3 (f : FuncId) {qs : Array Operand} {ts : Array TypeId} {vs : Array Value} {e s n : Nat} {xs : List Value} (hd : pdst X.n ops l ⟨ds, .call { callee := .value (.func f), args := qs, argTypes := ts }, ty, pos, af, gd⟩ = some d) (hr : Ent P μ l L ⟨ds, .call { callee := .value (.func f), args := qs, argTypes := ts }, ty, pos, af, gd⟩ f vs) (hc : ∀ w μc, MOk μc w → Sees μc μ L → Calls P f vs w (RowPost w e s n xs)) (h : ∀ v, G P X ops Q rest μ ((d, v) :: l) (.inr ⟨v, e, s, n, xs⟩ :: L)) :
    G P X ops Q (⟨ds, .call { callee := .value (.func f), args := qs, argTypes := ts }, ty, pos, af, gd⟩ :: rest) μ l L := by
  obtain ⟨h1, h2, h3⟩ := pdst_spec hd
  exact g_enter_row (hd := h1) (hn := h2) (hw := h3) (hr := hr) (hc := hc) (h := h)
def FStep (A B : Prop) : Prop := A → B
def DStep (_ : Nat) (A B : Prop) : Prop := A → B
theorem s_gc_seq {x y : Code}  :
    FStep (GC P X x (Exit.then (y.wp P Q) Q) μ l L) (GC P X (.seq x y) Q μ l L) := fun h => gc_seq (h := h)
theorem s_gc_region {id : Nat} {ops : List Oper}  :
    FStep (G P X ops.toArray Q ops μ l L) (GC P X (.region id ops.toArray false) Q μ l L) := fun h => gc_region (h := h)
theorem s_g_nil {ops : Array Oper}  :
    FStep (GQ X Q .normal μ l L) (G P X ops Q [] μ l L) := fun h => g_nil (h := h)
theorem s_gq_then {y : Code}  :
    FStep (GC P X y Q μ l L) (GQ X (Exit.then (y.wp P Q) Q) .normal μ l L) := fun h => gq_then (h := h)
theorem s_gc_block {id : Nat} {c : Code}  :
    FStep (GC P X c (Exit.inBlock id Q) μ l L) (GC P X (.block id c) Q μ l L) := fun h => gc_block (h := h)
theorem s_gc_exit {id : Nat}  :
    FStep (GQ X Q (.exit id) μ l L) (GC P X (.exit id) Q μ l L) := fun h => gc_exit (h := h)
theorem s_gc_ret   :
    FStep (GQ X Q .ret μ l L) (GC P X .ret Q μ l L) := fun h => gc_ret (h := h)
theorem s_gc_skip   :
    FStep (GQ X Q .normal μ l L) (GC P X .skip Q μ l L) := fun h => gc_skip (h := h)
theorem s_gq_then_exit {K : Act → World → Prop} {i : Nat}  :
    FStep (GQ X Q (.exit i) μ l L) (GQ X (Exit.then K Q) (.exit i) μ l L) := fun h => gq_then_exit (h := h)
theorem s_gq_then_ret {K : Act → World → Prop}  :
    FStep (GQ X Q .ret μ l L) (GQ X (Exit.then K Q) .ret μ l L) := fun h => gq_then_ret (h := h)
theorem s_gq_block_same {i : Nat}  :
    FStep (GQ X Q .normal μ l L) (GQ X (Exit.inBlock i Q) (.exit i) μ l L) := fun h => gq_block_same (h := h)
theorem s_gq_block_normal {i : Nat}  :
    FStep (GQ X Q .normal μ l L) (GQ X (Exit.inBlock i Q) .normal μ l L) := fun h => gq_block_normal (h := h)
theorem s_gq_block_ret {i : Nat}  :
    FStep (GQ X Q .ret μ l L) (GQ X (Exit.inBlock i Q) .ret μ l L) := fun h => gq_block_ret (h := h)
theorem s_pif_t {p q : Prop}  :
    FStep (p) (PIf true p q) := fun h => pif_t (h := h)
theorem s_pif_f {p q : Prop}  :
    FStep (q) (PIf false p q) := fun h => pif_f (h := h)
theorem s_pif_not {b : Bool} {p q : Prop}  :
    FStep (PIf b q p) (PIf (!b) p q) := fun h => pif_not (h := h)
theorem s_g_p {v : Value} (h : pstep P X.n ops l o = some (d, v)) :
    FStep (G P X ops Q rest μ ((d, v) :: l) L) (G P X ops Q (o :: rest) μ l L) := fun hg => g_p (h := h) (hg := hg)
theorem s_gc_if {c : Operand} {x y : Code} {b : Bool} (hc : ev l c = some (.bool b)) :
    FStep (PIf b (GC P X x Q μ l L) (GC P X y Q μ l L)) (GC P X (.cond c x y) Q μ l L) := fun h => gc_if (hc := hc) (h := h)
theorem s_pif_decT {c p q : Prop} {_ : Decidable c} (hc : c) :
    FStep (p) (PIf (decide c) p q) := fun h => pif_decT (hc := hc) (h := h)
theorem s_pif_decF {c p q : Prop} {_ : Decidable c} (hc : ¬ c) :
    FStep (q) (PIf (decide c) p q) := fun h => pif_decF (hc := hc) (h := h)
theorem s_pif_tt {b : Bool} {p q : Prop} (hb : b = true) :
    FStep (p) (PIf b p q) := fun h => pif_tt (hb := hb) (h := h)
theorem s_pif_ff {b : Bool} {p q : Prop} (hb : b = false) :
    FStep (q) (PIf b p q) := fun h => pif_ff (hb := hb) (h := h)
theorem s_g_ar {r : Int} (h : arstep X.n ops l o = some (d, r)) (hb : -9223372036854775808 ≤ r ∧ r ≤ 9223372036854775807) :
    FStep (G P X ops Q rest μ ((d, .int .i64 r) :: l) L) (G P X ops Q (o :: rest) μ l L) := fun hg => g_ar (h := h) (hb := hb) (hg := hg)
theorem s_g_ld {t b off : Nat} {y : Blk} {v : Value} (hd : pdst X.n ops l o = some d) (h : ldop l o.op = some (t, b, off)) (hb : InB L b y) (hv : ldv P t y.cs off = some v) :
    FStep (G P X ops Q rest μ ((d, v) :: l) L) (G P X ops Q (o :: rest) μ l L) := fun hg => g_ld (hd := hd) (h := h) (hb := hb) (hv := hv) (hg := hg)
theorem s_g_v {v : Value} (hd : pdst X.n ops l o = some d) (hr : Val P μ l L o v) :
    FStep (G P X ops Q rest μ ((d, v) :: l) L) (G P X ops Q (o :: rest) μ l L) := fun h => g_v (hd := hd) (hr := hr) (h := h)
theorem s_g_st {b off : Nat} {vs : List Value} {L' : List Bk} (hd : pnone ops l o = true) (h : stop P l o.op = some (b, off, vs)) (h1 : Ones vs) (hu : UpB L b off vs L') :
    FStep (G P X ops Q rest μ l L') (G P X ops Q (o :: rest) μ l L) := fun hg => g_st (hd := hd) (h := h) (h1 := h1) (hu := hu) (hg := hg)
theorem s_gq_block_other {i j : Nat} (hij : Nat.beq j i = false) :
    FStep (GQ X Q (.exit j) μ l L) (GQ X (Exit.inBlock i Q) (.exit j) μ l L) := fun h => gq_block_other (hij := hij) (h := h)
theorem s_g_if {t : Nat} {b : Bool} (h : gtest ops l o = some (t, b)) (hb : NLit b) :
    FStep (PIf b (G P X ops Q (o :: rest) μ ((t, .bool true) :: l) L) (G P X ops Q (o :: rest) μ ((t, .bool false) :: l) L)) (G P X ops Q (o :: rest) μ l L) := fun hg => g_if (h := h) (hb := hb) (hg := hg)
theorem s_g_nw {t : TypeId} {cs : List Value} {n : Nat} (hd : pdst X.n ops l o = some d) (h : nwop P l o.op = some (t, cs)) (hn : nat16 cs.length some = some n) :
    FStep (∀ b, G P X ops Q rest μ ((d, .pointer (some ⟨b, 0, none⟩)) :: l) (.inl ⟨b, t, n, idx 0 cs⟩ :: L)) (G P X ops Q (o :: rest) μ l L) := fun hg => g_nw (hd := hd) (h := h) (hn := hn) (hg := hg)
theorem s_g_bs {t : TypeId} {cs : List Value} {n m : Nat} (hd : pdst X.n ops l o = some d) (h : bsop P l o.op = some (t, m, cs)) (hn : nat16 cs.length some = some n) :
    FStep (∀ b, G P X ops Q rest μ ((d, .slice (some ⟨b, 0, none⟩) m m) :: l) (.inl ⟨b, t, n, idx 0 cs⟩ :: L)) (G P X ops Q (o :: rest) μ l L) := fun hg => g_bs (hd := hd) (h := h) (hn := hn) (hg := hg)
theorem s2_dec {c p q : Prop} {_ : Decidable c} : FStep ((c → p) ∧ (¬c → q)) (PIf (decide c) p q) := fun h => pif_dec h.1 h.2
theorem s2_b {b : Bool} {p q : Prop} : FStep ((b = true → p) ∧ (b = false → q)) (PIf b p q) := fun h => pif_b h.1 h.2
theorem KO {A B : Prop} (h : A)
    (f : FStep A B := by first | ((with_reducible (first | apply s_gc_seq | apply s_gc_region | apply s_g_nil | apply s_gq_then | apply s_gc_block | apply s_gc_exit | apply s_gc_ret | apply s_gc_skip | apply s_gq_then_exit | apply s_gq_then_ret | apply s_gq_block_same | apply s_gq_block_normal | apply s_gq_block_ret | apply s_pif_t | apply s_pif_f | apply s_pif_not))) | ((with_reducible apply s_g_p); exact rfl) | ((with_reducible apply s_gc_if); exact rfl) | ((with_reducible apply s_pif_decT); (first | omega | with_reducible assumption | with_reducible rfl)) | ((with_reducible apply s_pif_decF); (first | omega | with_reducible assumption | with_reducible exact ne_self_f _)) | ((with_reducible apply s_pif_tt); exact rfl) | ((with_reducible apply s_pif_ff); exact rfl) | fail) : B := f h
theorem KK {A B : Prop} (h : A)
    (f : FStep A B := by first | ((with_reducible (first | apply s_gc_seq | apply s_gc_region | apply s_g_nil | apply s_gq_then | apply s_gc_block | apply s_gc_exit | apply s_gc_ret | apply s_gc_skip | apply s_gq_then_exit | apply s_gq_then_ret | apply s_gq_block_same | apply s_gq_block_normal | apply s_gq_block_ret | apply s_pif_t | apply s_pif_f | apply s_pif_not))) | ((with_reducible apply s_g_p); exact rfl) | ((with_reducible apply s_gc_if); exact rfl) | ((with_reducible apply s_pif_decT); (first | omega | with_reducible assumption | with_reducible rfl)) | ((with_reducible apply s_pif_decF); (first | omega | with_reducible assumption | with_reducible exact ne_self_f _)) | ((with_reducible apply s_pif_tt); exact rfl) | ((with_reducible apply s_pif_ff); exact rfl) | ((with_reducible apply s_g_ar); exact rfl; omega) | ((with_reducible apply s_g_ld); exact rfl; exact rfl; (repeat first | with_reducible exact inb_hd | with_reducible apply inb_tl); exact rfl) | ((with_reducible apply s_g_v); exact rfl; (first | ((with_reducible apply v_field_n); exact rfl; exact rfl) | ((with_reducible apply v_index_n); exact rfl; exact rfl; exact rfl; exact rfl; omega) | ((with_reducible apply v_ld); exact rfl; (repeat first | with_reducible exact inb_hd | with_reducible apply inb_tl); exact rfl) | ((with_reducible apply v_sindex_n); exact rfl; exact rfl; exact rfl; omega) | ((with_reducible apply v_fieldv); exact rfl; exact rfl) | ((with_reducible apply v_neg_i); exact rfl; omega) | ((with_reducible apply v_max2); exact rfl; exact rfl) | ((with_reducible apply v_min2); exact rfl; exact rfl) | ((with_reducible apply v_quo_i); exact rfl; exact rfl; (first | omega | with_reducible assumption); (first | omega | with_reducible assumption)) | ((with_reducible apply v_rem); exact rfl; exact rfl; (first | omega | with_reducible assumption)) | ((with_reducible apply v_conv_int); exact rfl; exact rfl; exact rfl; omega) | ((with_reducible apply arB_sound); exact rfl; omega) | ((with_reducible apply v_aggeql); exact rfl; exact rfl; exact rfl; kernel_rfl; kernel_rfl; kernel_rfl; kernel_rfl) | ((with_reducible apply v_aggneq); exact rfl; exact rfl; exact rfl; kernel_rfl; kernel_rfl; kernel_rfl; kernel_rfl) | ((with_reducible apply v_len_row 0); exact rfl; exact rfl; exact rfl) | ((with_reducible apply v_len_row 1); exact rfl; exact rfl; exact rfl) | ((with_reducible apply v_len_row 2); exact rfl; exact rfl; exact rfl) | ((with_reducible apply v_len_row 3); exact rfl; exact rfl; exact rfl) | ((with_reducible apply v_slice_arr); exact rfl; exact rfl; exact rfl))) | ((with_reducible apply s_g_st); exact rfl; exact rfl; (repeat first | with_reducible exact ones_nil | ((with_reducible apply ones_cons); (first | exact rfl | assumption))); (repeat first | with_reducible apply upb_hd | with_reducible apply upb_tl); exact rfl; (repeat first | with_reducible exact pc_nil | with_reducible apply pc_cons)) | ((with_reducible apply s_gq_block_other); exact rfl) | fail) : B := f h
theorem KI {A B : Prop} (h : A)
    (f : FStep A B := by first | ((with_reducible apply s_g_ar); exact rfl; omega) | ((with_reducible apply s_g_ld); exact rfl; exact rfl; (repeat first | with_reducible exact inb_hd | with_reducible apply inb_tl); exact rfl) | ((with_reducible apply s_g_v); exact rfl; (first | ((with_reducible apply v_field_n); exact rfl; exact rfl) | ((with_reducible apply v_index_n); exact rfl; exact rfl; exact rfl; exact rfl; omega) | ((with_reducible apply v_ld); exact rfl; (repeat first | with_reducible exact inb_hd | with_reducible apply inb_tl); exact rfl) | ((with_reducible apply v_sindex_n); exact rfl; exact rfl; exact rfl; omega) | ((with_reducible apply v_fieldv); exact rfl; exact rfl) | ((with_reducible apply v_neg_i); exact rfl; omega) | ((with_reducible apply v_max2); exact rfl; exact rfl) | ((with_reducible apply v_min2); exact rfl; exact rfl) | ((with_reducible apply v_quo_i); exact rfl; exact rfl; (first | omega | with_reducible assumption); (first | omega | with_reducible assumption)) | ((with_reducible apply v_rem); exact rfl; exact rfl; (first | omega | with_reducible assumption)) | ((with_reducible apply v_conv_int); exact rfl; exact rfl; exact rfl; omega) | ((with_reducible apply arB_sound); exact rfl; omega) | ((with_reducible apply v_aggeql); exact rfl; exact rfl; exact rfl; kernel_rfl; kernel_rfl; kernel_rfl; kernel_rfl) | ((with_reducible apply v_aggneq); exact rfl; exact rfl; exact rfl; kernel_rfl; kernel_rfl; kernel_rfl; kernel_rfl) | ((with_reducible apply v_len_row 0); exact rfl; exact rfl; exact rfl) | ((with_reducible apply v_len_row 1); exact rfl; exact rfl; exact rfl) | ((with_reducible apply v_len_row 2); exact rfl; exact rfl; exact rfl) | ((with_reducible apply v_len_row 3); exact rfl; exact rfl; exact rfl) | ((with_reducible apply v_slice_arr); exact rfl; exact rfl; exact rfl))) | ((with_reducible apply s_g_st); exact rfl; exact rfl; (repeat first | with_reducible exact ones_nil | ((with_reducible apply ones_cons); (first | exact rfl | assumption))); (repeat first | with_reducible apply upb_hd | with_reducible apply upb_tl); exact rfl; (repeat first | with_reducible exact pc_nil | with_reducible apply pc_cons)) | ((with_reducible apply s_gq_block_other); exact rfl) | fail) : B := f h
theorem KG {A B : Prop} (h : A)
    (f : FStep A B := by (with_reducible apply s_g_if); exact rfl; (fail_if_success (with_reducible show NLit true)); (fail_if_success (with_reducible show NLit false)); exact nLit _) : B := f h
theorem KB {A B C : Prop} (h1 : A) (h2 : B)
    (f : FStep (A ∧ B) C := by with_reducible (first | exact s2_dec | exact s2_b | fail)) : C := f ⟨h1, h2⟩
theorem NB {A : Nat → Prop} {B : Prop} (h : ∀ b, A b)
    (f : FStep (∀ b, A b) B := by first | ((with_reducible apply s_g_nw); exact rfl; exact rfl; exact rfl) | ((with_reducible apply s_g_bs); exact rfl; exact rfl; exact rfl) | fail) : B := f h
def VStep (_ : Nat) (B : Prop) : Prop := B
theorem E1 {i : Nat} {v : Value} (h : pstepAt P X.n ops l i = some (d, v)) (hk : drawOk ops listed i = true) (hQ : ∀ c a w, Q (.panic c) (Act.put a (some d) v) w → Q (.panic c) a w) :
    DStep i (GA P X μr Lr ops Q fuel (listed.setIfInBounds i true) μ ((d, v) :: l) L) (GA P X μr Lr ops Q (fuel + 1) listed μ l L) := fun hg => ga_p (i := i) (h := h) (hk := hk) (hQ := hQ) (hg := hg)
theorem E2 {i : Nat} {v : Value} (h : pdstAt X.n ops l i = some (d, o)) (hk : drawOk ops listed i = true) (hQ : ∀ c a w, Q (.panic c) (Act.put a (some d) v) w → Q (.panic c) a w) (hv : Val P μr l Lr o v) :
    DStep i (GA P X μr Lr ops Q fuel (listed.setIfInBounds i true) μ ((d, v) :: l) L) (GA P X μr Lr ops Q (fuel + 1) listed μ l L) := fun hg => ga_v (i := i) (h := h) (hk := hk) (hQ := hQ) (hv := hv) (hg := hg)
theorem E3 {i : Nat} {v : Value} (hr : Region.ready .any ops listed = [i]) (ho : nthO ops.toList i = some o) (hd : o.dst = some d) (hn : Nat.blt d X.n = true) (hw : wants ops l o = some true) (hv : Val P μ l L o v) :
    DStep i (GA P X μr Lr ops Q fuel (listed.setIfInBounds i true) μ ((d, v) :: l) L) (GA P X μr Lr ops Q (fuel + 1) listed μ l L) := fun h => ga_all1 i hr (gaop_val ho hd hn hw hv h)
theorem DD (i : Nat) {A B : Prop} (h : A)
    (f : DStep i A B := by first | ((with_reducible apply E1); exact rfl; kernel_rfl; (exact fun _ _ _ h => h)) | ((with_reducible apply E2); exact rfl; kernel_rfl; (exact fun _ _ _ h => h); (first | ((with_reducible apply pv_sound); exact rfl) | ((with_reducible apply v_field_n); exact rfl; exact rfl) | ((with_reducible apply v_index_n); exact rfl; exact rfl; exact rfl; exact rfl; omega) | ((with_reducible apply v_ld); exact rfl; (repeat first | with_reducible exact inb_hd | with_reducible apply inb_tl); exact rfl) | ((with_reducible apply v_sindex_n); exact rfl; exact rfl; exact rfl; omega) | ((with_reducible apply v_fieldv); exact rfl; exact rfl) | ((with_reducible apply v_neg_i); exact rfl; omega) | ((with_reducible apply v_max2); exact rfl; exact rfl) | ((with_reducible apply v_min2); exact rfl; exact rfl) | ((with_reducible apply v_quo_i); exact rfl; exact rfl; (first | omega | with_reducible assumption); (first | omega | with_reducible assumption)) | ((with_reducible apply v_rem); exact rfl; exact rfl; (first | omega | with_reducible assumption)) | ((with_reducible apply v_conv_int); exact rfl; exact rfl; exact rfl; omega) | ((with_reducible apply arB_sound); exact rfl; omega) | ((with_reducible apply v_aggeql); exact rfl; exact rfl; exact rfl; kernel_rfl; kernel_rfl; kernel_rfl; kernel_rfl) | ((with_reducible apply v_aggneq); exact rfl; exact rfl; exact rfl; kernel_rfl; kernel_rfl; kernel_rfl; kernel_rfl) | ((with_reducible apply v_len_row 0); exact rfl; exact rfl; exact rfl) | ((with_reducible apply v_len_row 1); exact rfl; exact rfl; exact rfl) | ((with_reducible apply v_len_row 2); exact rfl; exact rfl; exact rfl) | ((with_reducible apply v_len_row 3); exact rfl; exact rfl; exact rfl) | ((with_reducible apply v_slice_arr); exact rfl; exact rfl; exact rfl) | ((with_reducible apply arI_sound); exact rfl; omega))) | ((with_reducible apply E3); kernel_rfl; exact rfl; exact rfl; exact rfl; exact rfl; (first | ((with_reducible apply pv_sound); exact rfl) | ((with_reducible apply v_field_n); exact rfl; exact rfl) | ((with_reducible apply v_index_n); exact rfl; exact rfl; exact rfl; exact rfl; omega) | ((with_reducible apply v_ld); exact rfl; (repeat first | with_reducible exact inb_hd | with_reducible apply inb_tl); exact rfl) | ((with_reducible apply v_sindex_n); exact rfl; exact rfl; exact rfl; omega) | ((with_reducible apply v_fieldv); exact rfl; exact rfl) | ((with_reducible apply v_neg_i); exact rfl; omega) | ((with_reducible apply v_max2); exact rfl; exact rfl) | ((with_reducible apply v_min2); exact rfl; exact rfl) | ((with_reducible apply v_quo_i); exact rfl; exact rfl; (first | omega | with_reducible assumption); (first | omega | with_reducible assumption)) | ((with_reducible apply v_rem); exact rfl; exact rfl; (first | omega | with_reducible assumption)) | ((with_reducible apply v_conv_int); exact rfl; exact rfl; exact rfl; omega) | ((with_reducible apply arB_sound); exact rfl; omega) | ((with_reducible apply v_aggeql); exact rfl; exact rfl; exact rfl; kernel_rfl; kernel_rfl; kernel_rfl; kernel_rfl) | ((with_reducible apply v_aggneq); exact rfl; exact rfl; exact rfl; kernel_rfl; kernel_rfl; kernel_rfl; kernel_rfl) | ((with_reducible apply v_len_row 0); exact rfl; exact rfl; exact rfl) | ((with_reducible apply v_len_row 1); exact rfl; exact rfl; exact rfl) | ((with_reducible apply v_len_row 2); exact rfl; exact rfl; exact rfl) | ((with_reducible apply v_len_row 3); exact rfl; exact rfl; exact rfl) | ((with_reducible apply v_slice_arr); exact rfl; exact rfl; exact rfl) | ((with_reducible apply arI_sound); exact rfl; omega))) | fail) : B := f h
theorem X1 {k : Nat} {p q : Operand} {t e : TypeId} {A : Addr} {len cap n : Nat} {i : Int} (ht : P.underlying t = some (.slice e)) (hs : sizeT P e = some n) (hx0 : ev l p = some (.slice (some A) len cap)) (hx1 : ev l q = some (.int .i64 i)) (hi : i = (k : Int)) (hk : k < len) :
    VStep k (Val P μ l L ⟨ds, .indexAddr t p q, ty, pos, af, gd⟩ (.pointer (some (A.add (k * n))))) := v_index (k := k) (ht := ht) (hs := hs) (hx0 := hx0) (hx1 := hx1) (hi := hi) (hk := hk)
theorem X2 {k : Nat} {p q : Operand} {t : TypeId} {s : ByteArray} {i : Int} (ht : P.underlying t = some .string) (hx0 : ev l p = some (.string s)) (hx1 : ev l q = some (.int .i64 i)) (hi : i = (k : Int)) (hk : k < s.size) :
    VStep k (Val P μ l L ⟨ds, .index t p q, ty, pos, af, gd⟩ (.int .u8 (bAt s k))) := v_sindex (k := k) (ht := ht) (hx0 := hx0) (hx1 := hx1) (hi := hi) (hk := hk)
theorem U1 (k : Nat) {B : Prop} (f : VStep k B := by (with_reducible apply X1); exact rfl; exact rfl; exact rfl; exact rfl; (first | exact rfl | omega); omega) : B := f
theorem U2 (k : Nat) {B : Prop} (f : VStep k B := by (with_reducible apply X2); exact rfl; exact rfl; exact rfl; (first | exact rfl | omega); omega) : B := f
theorem U3 {M B : Prop} (hm : M) (f : M → B := by intro h; (with_reducible apply v_load_sh); exact rfl; exact rfl; exact h) : B := f hm
theorem U4 {M B : Prop} (hm : M) (f : M → B := by intro h; first | ((with_reducible apply v_load_shs); exact rfl; exact rfl; exact rfl; exact h; exact rfl) | ((with_reducible apply v_ld_sh); exact rfl; exact rfl; exact rfl; exact h; exact rfl) | fail) : B := f hm
theorem PU {l l' : Slots} (h : SubS l' l := by first | (repeat first | exact subS_nil | refine subS_cons rfl ?_); done | fail) : SubS l' l := h
theorem PS {L L' : List Bk} (h : Sel L' L := by first | (repeat first | exact Sel.nil _ | (refine sel_0 ?_ ?_; focus (first | exact BkLe.refl _ | (refine BkLe.cells ?_; repeat first | exact subS_nil | refine subS_cons rfl ?_))) | (refine sel_1 ?_ ?_; focus (first | exact BkLe.refl _ | (refine BkLe.cells ?_; repeat first | exact subS_nil | refine subS_cons rfl ?_))) | (refine sel_2 ?_ ?_; focus (first | exact BkLe.refl _ | (refine BkLe.cells ?_; repeat first | exact subS_nil | refine subS_cons rfl ?_))) | (refine sel_3 ?_ ?_; focus (first | exact BkLe.refl _ | (refine BkLe.cells ?_; repeat first | exact subS_nil | refine subS_cons rfl ?_))) | (refine sel_4 ?_ ?_; focus (first | exact BkLe.refl _ | (refine BkLe.cells ?_; repeat first | exact subS_nil | refine subS_cons rfl ?_))) | (refine sel_5 ?_ ?_; focus (first | exact BkLe.refl _ | (refine BkLe.cells ?_; repeat first | exact subS_nil | refine subS_cons rfl ?_))) | (refine sel_6 ?_ ?_; focus (first | exact BkLe.refl _ | (refine BkLe.cells ?_; repeat first | exact subS_nil | refine subS_cons rfl ?_))) | (refine sel_7 ?_ ?_; focus (first | exact BkLe.refl _ | (refine BkLe.cells ?_; repeat first | exact subS_nil | refine subS_cons rfl ?_))) | (refine sel_8 ?_ ?_; focus (first | exact BkLe.refl _ | (refine BkLe.cells ?_; repeat first | exact subS_nil | refine subS_cons rfl ?_)))); done | fail) : Sel L' L := h
theorem CF (f : FuncId) {qs : Array Operand} {ts : Array TypeId} (h : G P X ops Q (⟨ds, .call { callee := .value (.func f), args := qs, argTypes := ts }, ty, pos, af, gd⟩ :: rest) μ l L) : G P X ops Q (⟨ds, .call { callee := .value (.func f), args := qs, argTypes := ts }, ty, pos, af, gd⟩ :: rest) μ l L := h
theorem DV {v : Value}
    (k : Nat)
    (h1 : pdstAt X.n ops l k = some (d, o) := by first | exact rfl | fail)
    (h2 : drawOk ops listed k = true := by first | kernel_rfl | fail)
    (h3 : ∀ c a w, Q (.panic c) (Act.put a (some d) v) w → Q (.panic c) a w := by exact fun _ _ _ h => h)
    (b : Val P μr l Lr o v)
    (c : GA P X μr Lr ops Q fuel (listed.setIfInBounds k true) μ ((d, v) :: l) L) :
    GA P X μr Lr ops Q (fuel + 1) listed μ l L := ga_v (i := k) (h := h1) (hk := h2) (hQ := h3) (hv := b) (hg := c)
theorem DW {i : Nat} {v : Value}
    (ho : nthO ops.toList i = some o := by first | exact rfl | fail)
    (hd : o.dst = some d := by first | exact rfl | fail)
    (hn : Nat.blt d X.n = true := by first | exact rfl | fail)
    (hw : wants ops l o = some true := by first | exact rfl | fail)
    (b : Val P μ l L o v)
    (c : GA P X μr Lr ops Q fuel (listed.setIfInBounds i true) μ ((d, v) :: l) L) :
    GAop P X μr Lr ops Q fuel listed i μ l L := gaop_val (ho := ho) (hd := hd) (hn := hn) (hw := hw) (hv := b) (h := c)
theorem KV {v : Value}
    (hd : pdst X.n ops l o = some d := by first | exact rfl | fail)
    (b : Val P μ l L o v)
    (c : G P X ops Q rest μ ((d, v) :: l) L) :
    G P X ops Q (o :: rest) μ l L := g_v (hd := hd) (hr := b) (h := c)
end
end Go.Vcg
set_option maxRecDepth 20000
namespace Go.Proofs.YtfabmichdhbiaaaGreatDoor
open Go.RowKit Go.Vcg
inductive T where
  | mk (op at' n m : Int) (s : ByteArray) (kids : List T)
namespace T
def op : T → Int | mk o _ _ _ _ _ => o
def at' : T → Int | mk _ a _ _ _ _ => a
def n : T → Int | mk _ _ n _ _ _ => n
def m : T → Int | mk _ _ _ m _ _ => m
def s : T → ByteArray | mk _ _ _ _ s _ => s
def kids : T → List T | mk _ _ _ _ _ k => k
def zero : T := mk 0 0 0 0 ⟨#[]⟩ []
def size : T → Nat | mk _ _ _ _ _ ks => 1 + (ks.attach.map fun ⟨k, _⟩ => k.size).sum
theorem size_eq (t : T) : t.size = 1 + (t.kids.map size).sum := by
  cases t with
  | mk o a n m s ks => rw [size]; simp [kids]
theorem sum_mem {l : List Nat} {x : Nat} (h : x ∈ l) : x ≤ l.sum := by
  induction l with
  | nil => cases h
  | cons y l ih =>
    rcases List.mem_cons.1 h with rfl | h
    · simp
    · have := ih h
      simp; omega
theorem size_kid {t k : T} {i : Nat} (h : t.kids[i]? = some k) : k.size < t.size := by
  rw [size_eq t]
  have := sum_mem (List.mem_map.2 ⟨k, List.mem_of_getElem? h, rfl⟩ : k.size ∈ t.kids.map size)
  omega
end T
abbrev encT (t : T) (v : Value) : List Value := [.int .i64 t.op, .int .i64 t.at', .int .i64 t.n, .int .i64 t.m, .string t.s, v]
abbrev encTV (p : T × Value) : List Value := encT p.1 p.2
inductive KR (μ : Mem) : List T → Value → Prop
  | mk (ks : List T) (A : Option Addr) (c : Nat) (vs : Nat → Value) (hcap : ks.length ≤ c) (hcell : ∀ i t, ks[i]? = some t → ∃ a, A = some a ∧ MCells μ (a.add (i * 6)) (encT t (vs i)))
      (hone : ∀ i t, ks[i]? = some t → (vs i).oneCell' = true) (hsub : ∀ i t, ks[i]? = some t → KR μ t.kids (vs i)) : KR μ ks (.slice A ks.length c)
theorem KR.mono {μ μ' : Mem} (hle : MLe μ μ') {ks : List T} {v : Value} (h : KR μ ks v) : KR μ' ks v := by
  induction h with
  | mk ks A c vs hcap hcell hone hsub ih =>
    refine .mk ks A c vs hcap (fun i t hi => ?_) hone ih
    obtain ⟨a, e, hc⟩ := hcell i t hi
    exact ⟨a, e, hc.mono hle⟩
theorem KR.nil (μ : Mem) (A : Option Addr) (c : Nat) : KR μ [] (.slice A 0 c) := .mk [] A c (fun _ => undef) (Nat.zero_le _) (fun i t h => by simp at h) (fun i t h => by simp at h) (fun i t h => by simp at h)
theorem KR.form {μ : Mem} {ks : List T} {v : Value} (h : KR μ ks v) : ∃ (A : Option Addr) (c : Nat), v = .slice A ks.length c ∧ ks.length ≤ c ∧ ∀ (i : Nat) (t : T), ks[i]? = some t → ∃ a u, A = some a ∧ MCells μ (a.add (i * 6)) (encT t u) ∧ u.oneCell' = true ∧ KR μ t.kids u := by
  cases h with
  | mk _ A c vs hcap hcell hone hsub =>
    refine ⟨A, c, rfl, hcap, fun i t hi => ?_⟩
    obtain ⟨a, e, hc⟩ := hcell i t hi
    exact ⟨a, _, e, hc, hone i t hi, hsub i t hi⟩
theorem KR.one {μ : Mem} {ks : List T} {v : Value} (h : KR μ ks v) : v.oneCell' = true := by cases h; rfl
def TV (μ : Mem) (t : T) (v : Value) : Prop := ∃ u, v = .agg (encT t u).toArray ∧ KR μ t.kids u
theorem TV.mono {μ μ' : Mem} {t : T} {v : Value} (h : TV μ t v) (hle : MLe μ μ') : TV μ' t v := by
  obtain ⟨u, e, h⟩ := h
  exact ⟨u, e, h.mono hle⟩
theorem KR.sl {μ : Mem} {ks : List T} {v : Value} (h : KR μ ks v) : ∃ (A : Option Addr) (c : Nat) (ps : List (T × Value)), v = .slice A ks.length c ∧ ks.length ≤ c ∧ ps.map (·.1) = ks ∧ Sl encTV 6 μ A ks.length ps ∧ ∀ p ∈ ps, KR μ p.1.kids p.2 := by
  cases h with
  | mk _ A c vs hcap hcell hone hsub =>
    have hg : ∀ (i : Nat) (p : T × Value), (ks.zipIdx.map fun x => (x.1, vs x.2))[i]? = some p → ks[i]? = some p.1 ∧ p.2 = vs i := fun i p hp => by
      rw [List.getElem?_map, List.getElem?_zipIdx] at hp
      cases hk : ks[i]? with
      | none => simp [hk] at hp
      | some t => simp [hk] at hp; subst hp; exact ⟨rfl, rfl⟩
    refine ⟨A, c, ks.zipIdx.map fun x => (x.1, vs x.2), rfl, hcap, ?_, ⟨by simp, fun hp => ?_⟩, fun p hp => ?_⟩
    · rw [List.map_map]
      exact List.zipIdx_map_fst 0 ks
    · obtain ⟨a, e, _⟩ := hcell 0 _ (List.getElem?_eq_getElem hp)
      refine ⟨a, e, fun i p hx => ?_⟩
      obtain ⟨h1, h2⟩ := hg i p hx
      obtain ⟨a', e', hc⟩ := hcell i _ h1
      rw [e] at e'; cases e'
      show MCells μ _ (encT p.1 p.2)
      rw [h2]; exact hc
    · obtain ⟨i, hi⟩ := List.mem_iff_getElem?.1 hp
      obtain ⟨h1, h2⟩ := hg i p hi
      rw [h2]; exact hsub i _ h1
end Go.Proofs.YtfabmichdhbiaaaGreatDoor
set_option maxRecDepth 20000
namespace Go.Proofs.YtfabmichdhbiaaaGreatDoor.Iq
open Go.Vcg
def isE (op : Int) : Bool := decide (100 ≤ op) && (decide (op < 148) && (decide (op ≠ 121) && (decide (op ≠ 122) && decide (op ≠ 124))))
def isS (op : Int) : Bool := decide (160 ≤ op) && decide (op < 173)
def fitB (sign : UInt8) (op : Int) : Bool :=
  if sign = 115 then isS op else if sign = 112 then decide (op = 121) || decide (op = 122) else if sign = 97 then isE op || decide (op = 124) else if sign = 98 then isE op || isS op else isE op
def kidsB : List UInt8 → List Int → Bool
  | [], l => l.isEmpty
  | [c], l => match l with
    | [] => false
    | x :: l' => fitB c x && l'.isEmpty
  | c :: d :: r, l => if d = 42 then (l.take (l.length - r.length)).all (fitB c) && kidsB r (l.drop (l.length - r.length)) else match l with
    | [] => false
    | x :: l' => fitB c x && kidsB (d :: r) l'
def idStart (c : UInt8) : Bool := (decide (97 ≤ c.toNat) && decide (c.toNat ≤ 122)) || ((decide (65 ≤ c.toNat) && decide (c.toNat ≤ 90)) || (decide (c.toNat = 95) || decide (c.toNat = 36)))
def idPart (c : UInt8) : Bool := idStart c || (decide (48 ≤ c.toNat) && decide (c.toNat ≤ 57))
def formB : List UInt8 → Bool
  | [] => false
  | c :: r => idStart c && r.all idPart
abbrev Fns := List (Int × Int)
section
variable (row : Int → List UInt8 × List UInt8) (fs : Fns)
end
end Go.Proofs.YtfabmichdhbiaaaGreatDoor.Iq
set_option maxRecDepth 20000
namespace Go.Proofs.YtfabmichdhbiaaaGreatDoor.Ou
open Go
def byS (s : ByteArray) : List UInt8 := s.data.toList
theorem byS_inj {s t : ByteArray} (h : byS s = byS t) : s = t := by
  cases s; cases t
  simp only [byS, Array.toList_inj] at h
  rw [h]
structure KeyP where
  (kind n : Int) (s : ByteArray)
def hexT : List UInt8 := [48, 49, 50, 51, 52, 53, 54, 55, 56, 57, 97, 98, 99, 100, 101, 102]
def q1 (c : UInt8) : List UInt8 :=
  if c = 10 then [92, 110] else if c = 9 then [92, 116] else if c = 13 then [92, 114] else if c = 0 then [92, 48]
  else if c = 34 ∨ c = 92 then [92, c] else if c.toNat < 32 ∨ 126 < c.toNat then [92, 120, hexT.getD (c.toNat / 16) 0, hexT.getD (c.toNat % 16) 0] else [c]
end Go.Proofs.YtfabmichdhbiaaaGreatDoor.Ou
