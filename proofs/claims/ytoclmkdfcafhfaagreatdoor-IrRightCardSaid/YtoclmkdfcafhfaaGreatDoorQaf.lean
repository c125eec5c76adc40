/- A callee that borrows blocks of its caller's: it may change them, and gives them (or others) back. -/
import Derived.Test.YtoclmkdfcafhfaaGreatDoorQae
set_option maxRecDepth 20000
namespace Go.Vcg
section
open Go.RowKit
def idsOf : List Bk → List Nat
  | [] => []
  | x :: r => match Bk.id x with
    | some b => b :: idsOf r
    | none => idsOf r
theorem mem_idsOf {L : List Bk} {b : Nat} : b ∈ idsOf L ↔ ∃ x ∈ L, Bk.id x = some b := by
  induction L with
  | nil => simp [idsOf]
  | cons y r ih =>
    unfold idsOf
    cases h : Bk.id y with
    | none => simp [ih, h]
    | some c =>
      simp only [List.mem_cons, ih, exists_eq_or_imp, h, Option.some.injEq]
      constructor
      · rintro (rfl | h) <;> simp [*]
      · rintro (rfl | h) <;> simp [*]
structure Own (μ : Mem) (L : List Bk) (w : World) : Prop where
  own : ∀ x ∈ L, Bk.at x w
  priv : ∀ x ∈ L, ∀ b, Bk.id x = some b → μ b = none
  diff : L.Pairwise (fun x y => ∀ b, Bk.id x = some b → Bk.id y ≠ some b)
structure GrowM (M : List Nat) (w w' : World) (μ μ' : Mem) : Prop where
  os : w'.os = w.os
  tape : w'.tape = w.tape
  output : w'.output = w.output
  size : w.heap.size ≤ w'.heap.size
  block : ∀ b, b < w.heap.size → b ∉ M → w'.heap[b]? = w.heap[b]?
  le : MLe μ μ'
  ok : MOk μ' w'
  fresh : ∀ b, b < w.heap.size → b ∉ M → μ b = none → μ' b = none
def BackM (M : List Nat) (w w' : World) (μ : Mem) (L' : List Bk) (μ' : Mem) : Prop :=
  GrowM M w w' μ μ' ∧ Own μ' L' w' ∧ ∀ x ∈ L', ∀ b, Bk.id x = some b → b ∈ M ∨ w.heap.size ≤ b
section
variable {P : Program} {X : Ctx} {ops : Array Oper} {Q : Exit → Act → World → Prop} {rest : List Oper} {μ : Mem} {l : Slots} {L : List Bk} {a : Act} {w : World} {o : Oper} {d : Nat}
theorem St.borrow {LB Lr L' : List Bk} {w' : World} {μ' : Mem} (h : St X μ l (LB ++ Lr) a w) (hb : BackM (idsOf LB) w w' μ L' μ') : St X μ' l (L' ++ Lr) a w' := by
  obtain ⟨hg, ho, hn⟩ := hb
  have hd := List.pairwise_append.1 h.diff
  have hlt : ∀ x ∈ LB ++ Lr, ∀ b, Bk.id x = some b → b < w.heap.size := fun x hx b hb => Bk.lt (h.own x hx) hb
  have hids : ∀ b ∈ idsOf LB, b ∈ X.M ∨ X.w0.heap.size ≤ b := fun b hb => by
    obtain ⟨x, hx, hxb⟩ := mem_idsOf.1 hb
    exact h.new x (List.mem_append_left _ hx) b hxb
  have hr : ∀ x ∈ Lr, ∀ b, Bk.id x = some b → b ∉ idsOf LB := fun x hx b hxb hb => by
    obtain ⟨y, hy, hyb⟩ := mem_idsOf.1 hb
    exact hd.2.2 y hy x hx b hyb hxb
  refine ⟨h.size, h.defers.mono hg.le, h.slots, ⟨hg.os.trans h.keep.os, hg.tape.trans h.keep.tape, hg.output.trans h.keep.output, Nat.le_trans h.keep.size hg.size, fun b hb hM => ?_⟩, hg.ok, h.from0.trans hg.le, fun b hb hM h0 => ?_, fun x hx => ?_, fun x hx b hxb => ?_, fun x hx b hxb => ?_, ?_⟩
  · have : b ∉ idsOf LB := fun hbi => by
      rcases hids b hbi with h1 | h1
      · exact hM h1
      · omega
    rw [hg.block b (Nat.lt_of_lt_of_le hb h.keep.size) this]
    exact h.keep.block b hb hM
  · have : b ∉ idsOf LB := fun hbi => by
      rcases hids b hbi with h1 | h1
      · exact hM h1
      · omega
    exact hg.fresh b (Nat.lt_of_lt_of_le hb h.keep.size) this (h.fresh b hb hM h0)
  · rcases List.mem_append.1 hx with hx | hx
    · exact ho.own x hx
    · exact Bk.keep (h.own x (List.mem_append_right _ hx)) fun b hb => hg.block b (hlt x (List.mem_append_right _ hx) b hb) (hr x hx b hb)
  · rcases List.mem_append.1 hx with hx | hx
    · exact ho.priv x hx b hxb
    · exact hg.fresh b (hlt x (List.mem_append_right _ hx) b hxb) (hr x hx b hxb) (h.priv x (List.mem_append_right _ hx) b hxb)
  · rcases List.mem_append.1 hx with hx | hx
    · rcases hn x hx b hxb with h1 | h1
      · exact hids b h1
      · exact .inr (Nat.le_trans h.keep.size h1)
    · exact h.new x (List.mem_append_right _ hx) b hxb
  · refine List.pairwise_append.2 ⟨ho.diff, hd.2.1, fun x hx y hy b hxb hyb => ?_⟩
    rcases hn x hx b hxb with h1 | h1
    · exact hr y hy b hyb h1
    · have := hlt y (List.mem_append_right _ hy) b hyb
      omega
def splitB : Nat → List Bk → Option (List Bk × List Bk)
  | 0, L => some ([], L)
  | _ + 1, [] => none
  | k + 1, x :: r => match splitB k r with
    | some (a, b) => some (x :: a, b)
    | none => none
theorem splitB_eq : ∀ {k : Nat} {L a b : List Bk}, splitB k L = some (a, b) → L = a ++ b
  | 0, L, a, b, h => by simp [splitB] at h; obtain ⟨rfl, rfl⟩ := h; rfl
  | k + 1, [], a, b, h => by simp [splitB] at h
  | k + 1, x :: r, a, b, h => by
    unfold splitB at h
    split at h
    · rename_i a' b' he
      cases h
      rw [splitB_eq he]
      rfl
    · cases h
theorem g_enter_bor {f : FuncId} {vs : Array Value} {ι : Type} {Ls : ι → List Bk} {Post : Mem → Value → ι → Prop} {LB Lr : List Bk} (k : Nat) (hd : o.dst = some d) (hn : Nat.blt d X.n = true) (hw : wants ops l o = some true) (hr : Ent P μ l L o f vs)
    (hL : splitB k L = some (LB, Lr))
    (hc : ∀ w, MOk μ w → Own μ LB w → Calls P f vs w fun e w' => ∃ v μ' i, e = .returned v ∧ BackM (idsOf LB) w w' μ (Ls i) μ' ∧ Post μ' v i)
    (h : ∀ v μ' i, MLe μ μ' → Post μ' v i → G P X ops Q rest μ' ((d, v) :: l) (Ls i ++ Lr)) : G P X ops Q (o :: rest) μ l L :=
  g_wp hw fun a w hs => by
    unfold Oper.wp
    rw [hr a w hs.rd, Oper.upon_enter]
    have he := splitB_eq hL
    subst he
    have hO : Own μ LB w := ⟨fun x hx => hs.own x (List.mem_append_left _ hx), fun x hx => hs.priv x (List.mem_append_left _ hx), (List.pairwise_append.1 hs.diff).1⟩
    refine (hc w hs.mem hO).mono fun e w' he => ?_
    obtain ⟨v, μ', i, rfl, hb, hp⟩ := he
    show wpList P ops Q rest (a.put o.dst v) w'
    rw [hd]
    exact h v μ' i hb.1.le hp _ _ ((hs.borrow hb).put hn _)
theorem call_introM {f : FuncId} {fn : Func} {c : Code} {args : List Value} {n : Nat} {R : Ending → World → Prop} {LB : List Bk} (hf : P.funcs[f]? = some fn) (hb : fn.body = some c) (hn : fn.ntmps = n) (hsz : args.length ≤ n)
    (hμ : MOk μ w) (hO : Own μ LB w) (h : GC P ⟨w, μ, idsOf LB, n⟩ c (bodyPost P fn R) μ (idx 0 args) LB) : Calls P f args.toArray w R := by
  refine calls_of_wp hf hb (h _ _ ⟨?_, Marks.nil, fun t v hv => ?_, Keep.refl _ _, hμ, MLe.refl _, fun _ _ _ h => h, hO.own, hO.priv, fun x hx b hxb => .inl (mem_idsOf.2 ⟨x, hx, hxb⟩), hO.diff⟩)
  · simp [hn]; omega
  · obtain ⟨_, h2⟩ := lk_idx _ _ _ _ hv
    have hlt : t < args.length := by have := (List.getElem?_eq_some_iff.1 h2).1; simpa using this
    simp only [Nat.sub_zero] at h2
    rw [Array.getElem?_append_left (by simpa using hlt)]
    simpa using h2
theorem St.giveBack {n : Nat} {μ0 : Mem} {w' : World} {M : List Nat} {L' Lr : List Bk} (hs : St ⟨w, μ0, M, n⟩ μ l (L' ++ Lr) a w') : ∃ μ', BackM M w w' μ0 L' μ' ∧ MLe μ μ' := by
  have hd := List.pairwise_append.1 hs.diff
  refine ⟨fun b => if b < w.heap.size then μ b else if b ∈ idsOf L' then none else w'.heap[b]?, ⟨⟨hs.keep.os, hs.keep.tape, hs.keep.output, hs.keep.size, hs.keep.block, fun b o e => ?_, fun b o e => ?_, fun b hb hM h0 => ?_⟩, ⟨fun x hx => hs.own x (List.mem_append_left _ hx), fun x hx b hxb => ?_, hd.1⟩, fun x hx => hs.new x (List.mem_append_left _ hx)⟩, fun b o e => ?_⟩
  · have e2 := hs.from0 b o e
    by_cases hb : b < w.heap.size
    · simp [hb, e2]
    · have : b ∉ idsOf L' := fun hbi => by
        obtain ⟨x, hx, hxb⟩ := mem_idsOf.1 hbi
        rw [hs.priv x (List.mem_append_left _ hx) b hxb] at e2
        cases e2
      simp [hb, this]
      exact hs.mem b o e2
  · by_cases hb : b < w.heap.size
    · simp [hb] at e; exact hs.mem b o e
    · by_cases hbi : b ∈ idsOf L'
      · simp [hb, hbi] at e
      · simp [hb, hbi] at e; exact e
  · simp [hb]; exact hs.fresh b hb hM h0
  · have := hs.priv x (List.mem_append_left _ hx) b hxb
    by_cases hb : b < w.heap.size
    · simp [hb, this]
    · simp [hb, mem_idsOf.2 ⟨x, hx, hxb⟩]
  · by_cases hb : b < w.heap.size
    · simp [hb, e]
    · have : b ∉ idsOf L' := fun hbi => by
        obtain ⟨x, hx, hxb⟩ := mem_idsOf.1 hbi
        rw [hs.priv x (List.mem_append_left _ hx) b hxb] at e
        cases e
      simp [hb, this]
      exact hs.mem b o e
theorem ret_bor {fn : Func} {n : Nat} {r : ResultVar} {v : Value} {μ0 : Mem} {M : List Nat} {ι : Type} {Ls : ι → List Bk} {Post : Mem → Value → ι → Prop} {L' Lr : List Bk} (k : Nat) (i : ι) (hM : ∀ D, M.count D ≤ 1) (hr : fn.results = #[r]) (h : RV P μ l L r v) (hL : splitB k L = some (L', Lr)) (hLs : Ls i = L')
    (hp : ∀ μ', MLe μ μ' → Post μ' v i) :
    GQ ⟨w, μ0, M, n⟩ (bodyPost P fn (fun e w' => ∃ v μ' i, e = .returned v ∧ BackM M w w' μ0 (Ls i) μ' ∧ Post μ' v i)) .ret μ l L := fun a w' hs => by
  have he := splitB_eq hL
  subst he
  obtain ⟨μ', hb, hle⟩ := hs.giveBack
  subst hLs
  exact ⟨hs.defers.none hM, v, results1 hr h hs.rd, v, μ', i, rfl, hb, hp μ' hle⟩
theorem ret_bor0 {fn : Func} {n : Nat} {μ0 : Mem} {M : List Nat} {ι : Type} {Ls : ι → List Bk} {Post : Mem → Value → ι → Prop} {L' Lr : List Bk} {e : Exit} (k : Nat) (i : ι) (he : e = .ret ∨ e = .normal) (hM : ∀ D, M.count D ≤ 1) (hr : fn.results = #[]) (hL : splitB k L = some (L', Lr)) (hLs : Ls i = L')
    (hp : ∀ μ' v, MLe μ μ' → Post μ' v i) :
    GQ ⟨w, μ0, M, n⟩ (bodyPost P fn (fun e w' => ∃ v μ' i, e = .returned v ∧ BackM M w w' μ0 (Ls i) μ' ∧ Post μ' v i)) e μ l L := fun a w' hs => by
  have he' := splitB_eq hL
  subst he'
  obtain ⟨μ', hb, hle⟩ := hs.giveBack
  subst hLs
  have : ∃ v, (results fn a.tmps).run P w' = .ok v w' := by simp [results, hr]
  obtain ⟨v, hv⟩ := this
  rcases he with rfl | rfl
  all_goals exact ⟨hs.defers.none hM, v, hv, v, μ', i, rfl, hb, hp μ' v hle⟩
end
end
section
open Go.RowKit
theorem ids_count : ∀ {L : List Bk}, L.Pairwise (fun x y => ∀ b, Bk.id x = some b → Bk.id y ≠ some b) → ∀ D, (idsOf L).count D ≤ 1
  | [], _, D => by simp [idsOf]
  | x :: r, h, D => by
    obtain ⟨h1, h2⟩ := List.pairwise_cons.1 h
    have ih := ids_count h2 D
    unfold idsOf
    cases hx : Bk.id x with
    | none => exact ih
    | some c =>
      dsimp only
      rw [List.count_cons]
      by_cases hc : c = D
      · subst hc
        have : (idsOf r).count c = 0 := List.count_eq_zero.2 fun hm => by
          obtain ⟨y, hy, hyb⟩ := mem_idsOf.1 hm
          exact h1 y hy c hx hyb
        simp [this]
      · simp [hc]; exact ih
end
section
open Go.RowKit
inductive BkLe : Bk → Bk → Prop
  | refl (x : Bk) : BkLe x x
  | cells {b : Nat} {t : TypeId} {sz : Nat} {cs cs' : Slots} (h : SubS cs' cs) : BkLe (.inl ⟨b, t, sz, cs'⟩) (.inl ⟨b, t, sz, cs⟩)
inductive Sel : List Bk → List Bk → Prop
  | nil (L : List Bk) : Sel [] L
  | cons {x y : Bk} {r a b : List Bk} (h : BkLe x y) (hr : Sel r (a ++ b)) : Sel (x :: r) (a ++ y :: b)
theorem BkLe.id {x y : Bk} (h : BkLe x y) : Bk.id x = Bk.id y := by cases h <;> rfl
theorem BkLe.at {x y : Bk} {w : World} (h : BkLe x y) (hy : Bk.at y w) : Bk.at x w := by
  cases h with
  | refl => exact hy
  | cells h =>
    obtain ⟨arr, h1, h2, h3⟩ := hy
    exact ⟨arr, h1, h2, fun k v hk => h3 k v (h k v hk)⟩
theorem sel_mem {L' L : List Bk} (h : Sel L' L) : ∀ x ∈ L', ∃ y ∈ L, BkLe x y := by
  induction h with
  | nil L => intro x hx; cases hx
  | cons h hr ih =>
    intro z hz
    rcases List.mem_cons.1 hz with rfl | hz
    · exact ⟨_, by simp, h⟩
    · obtain ⟨y, hy, hle⟩ := ih z hz
      refine ⟨y, ?_, hle⟩
      rcases List.mem_append.1 hy with hy | hy <;> simp [hy]
def Df (x y : Bk) : Prop := ∀ b, Bk.id x = some b → Bk.id y ≠ some b
theorem sel_diff {L' L : List Bk} (h : Sel L' L) : L.Pairwise Df → L'.Pairwise Df := by
  induction h with
  | nil L => intro _; exact List.Pairwise.nil
  | @cons x y r a b h hr ih =>
    intro hd
    have hd2 : (y :: (a ++ b)).Pairwise Df := (List.perm_middle.pairwise_iff (fun {_ _} hxy b hb hb' => hxy b hb' hb)).1 hd
    obtain ⟨h1, h2⟩ := List.pairwise_cons.1 hd2
    refine List.pairwise_cons.2 ⟨fun z hz c hc hzc => ?_, ih h2⟩
    obtain ⟨y2, hy2, hle⟩ := sel_mem hr z hz
    exact h1 y2 hy2 c (by rw [← h.id]; exact hc) (by rw [← hle.id]; exact hzc)
section
variable {P : Program} {X : Ctx} {Q : Exit → Act → World → Prop} {μ : Mem} {l : Slots} {L : List Bk} {a : Act} {w : World}
theorem St.sel {l' : Slots} {L' : List Bk} (h : St X μ l L a w) (hl : SubS l' l) (hL : Sel L' L) : St X μ l' L' a w :=
  ⟨h.size, h.defers, fun t v hv => h.slots t v (hl t v hv), h.keep, h.mem, h.from0, h.fresh, fun x hx => let ⟨y, hy, hle⟩ := sel_mem hL x hx; hle.at (h.own y hy), fun x hx b hb => let ⟨y, hy, hle⟩ := sel_mem hL x hx; h.priv y hy b (by rw [← hle.id]; exact hb), fun x hx b hb => let ⟨y, hy, hle⟩ := sel_mem hL x hx; h.new y hy b (by rw [← hle.id]; exact hb), sel_diff hL h.diff⟩
theorem gq_joinS {ι : Type} {J : ι → Prop} {μs : ι → Mem} {ls : ι → Slots} {Ls : ι → List Bk} (j : ι) (hJ : J j) (hμ : μs j = μ) (hl : SubS (ls j) l) (hL : Sel (Ls j) L) :
    GQ X (Exit.then (Join X J μs ls Ls) Q) .normal μ l L := fun a w hs => ⟨j, hJ, by rw [hμ]; exact hs.sel hl hL⟩
theorem gq_backS {ι : Type} {J : ι → Prop} {m : ι → Nat} {μs : ι → Mem} {ls : ι → Slots} {Ls : ι → List Bk} {i : ι} (j : ι) (hJ : J j) (hm : m j < m i) (hμ : μs j = μ) (hl : SubS (ls j) l) (hL : Sel (Ls j) L) :
    GQ X (Exit.then (Back X J m μs ls Ls i) Q) .normal μ l L := fun a w hs => ⟨j, hJ, hm, by rw [hμ]; exact hs.sel hl hL⟩
theorem gc_sel {c : Code} {l' : Slots} {L' : List Bk} (hl : SubS l' l) (hL : Sel L' L) (h : GC P X c Q μ l' L') : GC P X c Q μ l L := fun a w hs => h a w (hs.sel hl hL)
theorem gq_sel {e : Exit} {l' : Slots} {L' : List Bk} (hl : SubS l' l) (hL : Sel L' L) (h : GQ X Q e μ l' L') : GQ X Q e μ l L := fun a w hs => h a w (hs.sel hl hL)
theorem sel_0 {x y : Bk} {r L : List Bk} (h : BkLe x y) (hr : Sel r (L)) : Sel (x :: r) (y :: L) := Sel.cons (a := []) h hr
theorem sel_1 {x y : Bk} {y0 : Bk} {r L : List Bk} (h : BkLe x y) (hr : Sel r (y0 :: L)) : Sel (x :: r) (y0 :: y :: L) := Sel.cons (a := [y0]) h hr
theorem sel_2 {x y : Bk} {y0 y1 : Bk} {r L : List Bk} (h : BkLe x y) (hr : Sel r (y0 :: y1 :: L)) : Sel (x :: r) (y0 :: y1 :: y :: L) := Sel.cons (a := [y0, y1]) h hr
theorem sel_3 {x y : Bk} {y0 y1 y2 : Bk} {r L : List Bk} (h : BkLe x y) (hr : Sel r (y0 :: y1 :: y2 :: L)) : Sel (x :: r) (y0 :: y1 :: y2 :: y :: L) := Sel.cons (a := [y0, y1, y2]) h hr
theorem sel_4 {x y : Bk} {y0 y1 y2 y3 : Bk} {r L : List Bk} (h : BkLe x y) (hr : Sel r (y0 :: y1 :: y2 :: y3 :: L)) : Sel (x :: r) (y0 :: y1 :: y2 :: y3 :: y :: L) := Sel.cons (a := [y0, y1, y2, y3]) h hr
theorem sel_5 {x y : Bk} {y0 y1 y2 y3 y4 : Bk} {r L : List Bk} (h : BkLe x y) (hr : Sel r (y0 :: y1 :: y2 :: y3 :: y4 :: L)) : Sel (x :: r) (y0 :: y1 :: y2 :: y3 :: y4 :: y :: L) := Sel.cons (a := [y0, y1, y2, y3, y4]) h hr
theorem sel_6 {x y : Bk} {y0 y1 y2 y3 y4 y5 : Bk} {r L : List Bk} (h : BkLe x y) (hr : Sel r (y0 :: y1 :: y2 :: y3 :: y4 :: y5 :: L)) : Sel (x :: r) (y0 :: y1 :: y2 :: y3 :: y4 :: y5 :: y :: L) := Sel.cons (a := [y0, y1, y2, y3, y4, y5]) h hr
theorem sel_7 {x y : Bk} {y0 y1 y2 y3 y4 y5 y6 : Bk} {r L : List Bk} (h : BkLe x y) (hr : Sel r (y0 :: y1 :: y2 :: y3 :: y4 :: y5 :: y6 :: L)) : Sel (x :: r) (y0 :: y1 :: y2 :: y3 :: y4 :: y5 :: y6 :: y :: L) := Sel.cons (a := [y0, y1, y2, y3, y4, y5, y6]) h hr
theorem sel_8 {x y : Bk} {y0 y1 y2 y3 y4 y5 y6 y7 : Bk} {r L : List Bk} (h : BkLe x y) (hr : Sel r (y0 :: y1 :: y2 :: y3 :: y4 :: y5 :: y6 :: y7 :: L)) : Sel (x :: r) (y0 :: y1 :: y2 :: y3 :: y4 :: y5 :: y6 :: y7 :: y :: L) := Sel.cons (a := [y0, y1, y2, y3, y4, y5, y6, y7]) h hr
theorem updB_id : ∀ {L : List Bk} {i : Nat} {x : Bk}, nthB L i = some x → updB L i x = L
  | [], _, _, h => by simp [nthB] at h
  | y :: r, 0, x, h => by simp [nthB] at h; simp [updB, h]
  | y :: r, i + 1, x, h => by simp only [updB]; rw [updB_id (i := i) (by simpa [nthB] using h)]
theorem St.rowEq {i : Nat} {v : Value} {e s n n' : Nat} {xs xs' : List Value} (h : St X μ l L a w) (hi : nthB L i = some (.inr ⟨v, e, s, n, xs⟩)) (hn : n = n') (hx : xs = xs') : St X μ l (updB L i (.inr ⟨v, e, s, n', xs'⟩)) a w := by
  subst hn hx
  rw [updB_id hi]
  exact h
theorem gq_rowEq {ex : Exit} {v : Value} {e s n n' : Nat} {xs xs' : List Value} (i : Nat) (hi : nthB L i = some (.inr ⟨v, e, s, n, xs⟩)) (hn : n = n') (hx : xs = xs') (h : GQ X Q ex μ l (updB L i (.inr ⟨v, e, s, n', xs'⟩))) : GQ X Q ex μ l L := fun a w hs => h a w (hs.rowEq hi hn hx)
def GCs (P : Program) (X : Ctx) (c : Code) (Q : Exit → Act → World → Prop) (μ : Mem) (l : Slots) (L : List Bk) : Prop := GC P X c Q μ l L
theorem gc_stop {c : Code} (h : GCs P X c Q μ l L) : GC P X c Q μ l L := h
theorem gcs {c : Code} (h : GC P X c Q μ l L) : GCs P X c Q μ l L := h
end
end
end Go.Vcg
namespace Go.Proofs.YtoclmkdfcafhfaaGreatDoor
end Go.Proofs.YtoclmkdfcafhfaaGreatDoor
