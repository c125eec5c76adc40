/- A callee that borrows blocks of its caller's: it may change them, and gives them (or others) back. -/
import Derived.Test.YtoclmkdfcafhfaaGreatDoorZad
set_option maxRecDepth 20000
namespace Go.Vcg
section
open Go.RowKit
def bS : List Bk → List Nat
  | [] => []
  | x :: r => match Bk.id x with
    | some b => b :: bS r
    | none => bS r
theorem jL {L : List Bk} {b : Nat} : b ∈ bS L ↔ ∃ x ∈ L, Bk.id x = some b := by
  induction L with
  | nil => simp [bS]
  | cons y r ih =>
    unfold bS
    cases h : Bk.id y with
    | none => simp [ih, h]
    | some c =>
      simp only [List.mem_cons, ih, exists_eq_or_imp, h, Option.some.injEq]
      constructor
      · rintro (rfl | h) <;> simp [*]
      · rintro (rfl | h) <;> simp [*]
structure Own (μ : Mem) (L : List Bk) (w : World) : Prop where
  own : ∀ x ∈ L, Bk.at x w
  priv : ∀ x ∈ L, ∀ b, Bk.id x = some b → μ b = none
  diff : L.Pairwise (fun x y => ∀ b, Bk.id x = some b → Bk.id y ≠ some b)
structure aG4 (M : List Nat) (w w' : World) (μ μ' : Mem) : Prop where
  os : w'.os = w.os
  tape : w'.tape = w.tape
  output : w'.output = w.output
  size : w.heap.size ≤ w'.heap.size
  block : ∀ b, b < w.heap.size → b ∉ M → w'.heap[b]? = w.heap[b]?
  le : MLe μ μ'
  ok : MOk μ' w'
  fresh : ∀ b, b < w.heap.size → b ∉ M → μ b = none → μ' b = none
def fH (M : List Nat) (w w' : World) (μ : Mem) (L' : List Bk) (μ' : Mem) : Prop :=
  aG4 M w w' μ μ' ∧ Own μ' L' w' ∧ ∀ x ∈ L', ∀ b, Bk.id x = some b → b ∈ M ∨ w.heap.size ≤ b
section
variable {P : Program} {X : Ctx} {ops : Array Oper} {Q : Exit → Act → World → Prop} {rest : List Oper} {μ : Mem} {l : aF} {L : List Bk} {a : Act} {w : World} {o : Oper} {d : Nat}
theorem St.borrow {LB Lr L' : List Bk} {w' : World} {μ' : Mem} (h : St X μ l (LB ++ Lr) a w) (hb : fH (bS LB) w w' μ L' μ') : St X μ' l (L' ++ Lr) a w' := by
  obtain ⟨hg, ho, hn⟩ := hb
  have hd := List.pairwise_append.1 h.diff
  have hlt : ∀ x ∈ LB ++ Lr, ∀ b, Bk.id x = some b → b < w.heap.size := fun x hx b hb => Bk.lt (h.own x hx) hb
  have hids : ∀ b ∈ bS LB, b ∈ X.M ∨ X.w0.heap.size ≤ b := fun b hb => by
    obtain ⟨x, hx, hxb⟩ := jL.1 hb
    exact h.new x (List.mem_append_left _ hx) b hxb
  have hr : ∀ x ∈ Lr, ∀ b, Bk.id x = some b → b ∉ bS LB := fun x hx b hxb hb => by
    obtain ⟨y, hy, hyb⟩ := jL.1 hb
    exact hd.2.2 y hy x hx b hyb hxb
  refine ⟨h.size, h.defers.mono hg.le, h.slots, ⟨hg.os.trans h.aT.os, hg.tape.trans h.aT.tape, hg.output.trans h.aT.output, Nat.le_trans h.aT.size hg.size, fun b hb hM => ?_⟩, hg.ok, h.from0.trans hg.le, fun b hb hM h0 => ?_, fun x hx => ?_, fun x hx b hxb => ?_, fun x hx b hxb => ?_, ?_⟩
  · have : b ∉ bS LB := fun hbi => by
      rcases hids b hbi with h1 | h1
      · exact hM h1
      · omega
    rw [hg.block b (Nat.lt_of_lt_of_le hb h.aT.size) this]
    exact h.aT.block b hb hM
  · have : b ∉ bS LB := fun hbi => by
      rcases hids b hbi with h1 | h1
      · exact hM h1
      · omega
    exact hg.fresh b (Nat.lt_of_lt_of_le hb h.aT.size) this (h.fresh b hb hM h0)
  · rcases List.mem_append.1 hx with hx | hx
    · exact ho.own x hx
    · exact Bk.aT (h.own x (List.mem_append_right _ hx)) fun b hb => hg.block b (hlt x (List.mem_append_right _ hx) b hb) (hr x hx b hb)
  · rcases List.mem_append.1 hx with hx | hx
    · exact ho.priv x hx b hxb
    · exact hg.fresh b (hlt x (List.mem_append_right _ hx) b hxb) (hr x hx b hxb) (h.priv x (List.mem_append_right _ hx) b hxb)
  · rcases List.mem_append.1 hx with hx | hx
    · rcases hn x hx b hxb with h1 | h1
      · exact hids b h1
      · exact .inr (Nat.le_trans h.aT.size h1)
    · exact h.new x (List.mem_append_right _ hx) b hxb
  · refine List.pairwise_append.2 ⟨ho.diff, hd.2.1, fun x hx y hy b hxb hyb => ?_⟩
    rcases hn x hx b hxb with h1 | h1
    · exact hr y hy b hyb h1
    · have := hlt y (List.mem_append_right _ hy) b hyb
      omega
def splitB : Nat → List Bk → Option (List Bk × List Bk)
  | 0, L => some ([], L)
  | _ + 1, [] => none
  | k + 1, x :: r => match splitB k r with
    | some (a, b) => some (x :: a, b)
    | none => none
theorem mK : ∀ {k : Nat} {L a b : List Bk}, splitB k L = some (a, b) → L = a ++ b
  | 0, L, a, b, h => by simp [splitB] at h; obtain ⟨rfl, rfl⟩ := h; rfl
  | k + 1, [], a, b, h => by simp [splitB] at h
  | k + 1, x :: r, a, b, h => by
    unfold splitB at h
    split at h
    · rename_i a' b' he
      cases h
      rw [mK he]
      rfl
    · cases h
theorem aA {f : FuncId} {vs : Array Value} {ι : Type} {Ls : ι → List Bk} {Post : Mem → Value → ι → Prop} {LB Lr : List Bk} (k : Nat) (hd : o.dst = some d) (hn : Nat.blt d X.n = true) (hw : dH ops l o = some true) (hr : Ent P μ l L o f vs)
    (hL : splitB k L = some (LB, Lr))
    (hc : ∀ w, MOk μ w → Own μ LB w → Calls P f vs w fun e w' => ∃ v μ' i, e = .returned v ∧ fH (bS LB) w w' μ (Ls i) μ' ∧ Post μ' v i)
    (h : ∀ v μ' i, MLe μ μ' → Post μ' v i → G P X ops Q rest μ' ((d, v) :: l) (Ls i ++ Lr)) : G P X ops Q (o :: rest) μ l L :=
  qG hw fun a w hs => by
    unfold Oper.wp
    rw [hr a w hs.rd, Oper.upon_enter]
    have he := mK hL
    subst he
    have hO : Own μ LB w := ⟨fun x hx => hs.own x (List.mem_append_left _ hx), fun x hx => hs.priv x (List.mem_append_left _ hx), (List.pairwise_append.1 hs.diff).1⟩
    refine (hc w hs.mem hO).mono fun e w' he => ?_
    obtain ⟨v, μ', i, rfl, hb, hp⟩ := he
    show wpList P ops Q rest (a.put o.dst v) w'
    rw [hd]
    exact h v μ' i hb.1.le hp _ _ ((hs.borrow hb).put hn _)
theorem aQ {f : FuncId} {fn : Func} {c : Code} {args : List Value} {n : Nat} {R : Ending → World → Prop} {LB : List Bk} (hf : P.funcs[f]? = some fn) (hb : fn.body = some c) (hn : fn.ntmps = n) (hsz : args.length ≤ n)
    (hμ : MOk μ w) (hO : Own μ LB w) (h : GC P ⟨w, μ, bS LB, n⟩ c (bodyPost P fn R) μ (idx 0 args) LB) : Calls P f args.toArray w R := by
  refine calls_of_wp hf hb (h _ _ ⟨?_, Marks.nil, fun t v hv => ?_, jP.refl _ _, hμ, MLe.refl _, fun _ _ _ h => h, hO.own, hO.priv, fun x hx b hxb => .inl (jL.2 ⟨x, hx, hxb⟩), hO.diff⟩)
  · simp [hn]; omega
  · obtain ⟨_, h2⟩ := lA _ _ _ _ hv
    have hlt : t < args.length := by have := (List.getElem?_eq_some_iff.1 h2).1; simpa using this
    simp only [Nat.sub_zero] at h2
    rw [Array.getElem?_append_left (by simpa using hlt)]
    simpa using h2
theorem St.yW {n : Nat} {μ0 : Mem} {w' : World} {M : List Nat} {L' Lr : List Bk} (hs : St ⟨w, μ0, M, n⟩ μ l (L' ++ Lr) a w') : ∃ μ', fH M w w' μ0 L' μ' ∧ MLe μ μ' := by
  have hd := List.pairwise_append.1 hs.diff
  refine ⟨fun b => if b < w.heap.size then μ b else if b ∈ bS L' then none else w'.heap[b]?, ⟨⟨hs.aT.os, hs.aT.tape, hs.aT.output, hs.aT.size, hs.aT.block, fun b o e => ?_, fun b o e => ?_, fun b hb hM h0 => ?_⟩, ⟨fun x hx => hs.own x (List.mem_append_left _ hx), fun x hx b hxb => ?_, hd.1⟩, fun x hx => hs.new x (List.mem_append_left _ hx)⟩, fun b o e => ?_⟩
  · have e2 := hs.from0 b o e
    by_cases hb : b < w.heap.size
    · simp [hb, e2]
    · have : b ∉ bS L' := fun hbi => by
        obtain ⟨x, hx, hxb⟩ := jL.1 hbi
        rw [hs.priv x (List.mem_append_left _ hx) b hxb] at e2
        cases e2
      simp [hb, this]
      exact hs.mem b o e2
  · by_cases hb : b < w.heap.size
    · simp [hb] at e; exact hs.mem b o e
    · by_cases hbi : b ∈ bS L'
      · simp [hb, hbi] at e
      · simp [hb, hbi] at e; exact e
  · simp [hb]; exact hs.fresh b hb hM h0
  · have := hs.priv x (List.mem_append_left _ hx) b hxb
    by_cases hb : b < w.heap.size
    · simp [hb, this]
    · simp [hb, jL.2 ⟨x, hx, hxb⟩]
  · by_cases hb : b < w.heap.size
    · simp [hb, e]
    · have : b ∉ bS L' := fun hbi => by
        obtain ⟨x, hx, hxb⟩ := jL.1 hbi
        rw [hs.priv x (List.mem_append_left _ hx) b hxb] at e
        cases e
      simp [hb, this]
      exact hs.mem b o e
theorem aS {fn : Func} {n : Nat} {r : ResultVar} {v : Value} {μ0 : Mem} {M : List Nat} {ι : Type} {Ls : ι → List Bk} {Post : Mem → Value → ι → Prop} {L' Lr : List Bk} (k : Nat) (i : ι) (hM : ∀ D, M.count D ≤ 1) (hr : fn.results = #[r]) (h : RV P μ l L r v) (hL : splitB k L = some (L', Lr)) (hLs : Ls i = L')
    (hp : ∀ μ', MLe μ μ' → Post μ' v i) :
    GQ ⟨w, μ0, M, n⟩ (bodyPost P fn (fun e w' => ∃ v μ' i, e = .returned v ∧ fH M w w' μ0 (Ls i) μ' ∧ Post μ' v i)) .ret μ l L := fun a w' hs => by
  have he := mK hL
  subst he
  obtain ⟨μ', hb, hle⟩ := hs.yW
  subst hLs
  exact ⟨hs.defers.none hM, v, results1 hr h hs.rd, v, μ', i, rfl, hb, hp μ' hle⟩
theorem fE {fn : Func} {n : Nat} {μ0 : Mem} {M : List Nat} {ι : Type} {Ls : ι → List Bk} {Post : Mem → Value → ι → Prop} {L' Lr : List Bk} {e : Exit} (k : Nat) (i : ι) (he : e = .ret ∨ e = .normal) (hM : ∀ D, M.count D ≤ 1) (hr : fn.results = #[]) (hL : splitB k L = some (L', Lr)) (hLs : Ls i = L')
    (hp : ∀ μ' v, MLe μ μ' → Post μ' v i) :
    GQ ⟨w, μ0, M, n⟩ (bodyPost P fn (fun e w' => ∃ v μ' i, e = .returned v ∧ fH M w w' μ0 (Ls i) μ' ∧ Post μ' v i)) e μ l L := fun a w' hs => by
  have he' := mK hL
  subst he'
  obtain ⟨μ', hb, hle⟩ := hs.yW
  subst hLs
  have : ∃ v, (results fn a.tmps).run P w' = .ok v w' := by simp [results, hr]
  obtain ⟨v, hv⟩ := this
  rcases he with rfl | rfl
  all_goals exact ⟨hs.defers.none hM, v, hv, v, μ', i, rfl, hb, hp μ' v hle⟩
end
end
section
open Go.RowKit
theorem bE : ∀ {L : List Bk}, L.Pairwise (fun x y => ∀ b, Bk.id x = some b → Bk.id y ≠ some b) → ∀ D, (bS L).count D ≤ 1
  | [], _, D => by simp [bS]
  | x :: r, h, D => by
    obtain ⟨h1, h2⟩ := List.pairwise_cons.1 h
    have ih := bE h2 D
    unfold bS
    cases hx : Bk.id x with
    | none => exact ih
    | some c =>
      dsimp only
      rw [List.count_cons]
      by_cases hc : c = D
      · subst hc
        have : (bS r).count c = 0 := List.count_eq_zero.2 fun hm => by
          obtain ⟨y, hy, hyb⟩ := jL.1 hm
          exact h1 y hy c hx hyb
        simp [this]
      · simp [hc]; exact ih
end
section
open Go.RowKit
inductive eV : Bk → Bk → Prop
  | refl (x : Bk) : eV x x
  | cells {b : Nat} {t : TypeId} {sz : Nat} {cs cs' : aF} (h : lH cs' cs) : eV (.inl ⟨b, t, sz, cs'⟩) (.inl ⟨b, t, sz, cs⟩)
inductive Sel : List Bk → List Bk → Prop
  | nil (L : List Bk) : Sel [] L
  | cons {x y : Bk} {r a b : List Bk} (h : eV x y) (hr : Sel r (a ++ b)) : Sel (x :: r) (a ++ y :: b)
theorem eV.id {x y : Bk} (h : eV x y) : Bk.id x = Bk.id y := by cases h <;> rfl
theorem eV.at {x y : Bk} {w : World} (h : eV x y) (hy : Bk.at y w) : Bk.at x w := by
  cases h with
  | refl => exact hy
  | cells h =>
    obtain ⟨arr, h1, h2, h3⟩ := hy
    exact ⟨arr, h1, h2, fun k v hk => h3 k v (h k v hk)⟩
theorem pO {L' L : List Bk} (h : Sel L' L) : ∀ x ∈ L', ∃ y ∈ L, eV x y := by
  induction h with
  | nil L => intro x hx; cases hx
  | cons h hr ih =>
    intro z hz
    rcases List.mem_cons.1 hz with rfl | hz
    · exact ⟨_, by simp, h⟩
    · obtain ⟨y, hy, hle⟩ := ih z hz
      refine ⟨y, ?_, hle⟩
      rcases List.mem_append.1 hy with hy | hy <;> simp [hy]
def Df (x y : Bk) : Prop := ∀ b, Bk.id x = some b → Bk.id y ≠ some b
theorem YD {L' L : List Bk} (h : Sel L' L) : L.Pairwise Df → L'.Pairwise Df := by
  induction h with
  | nil L => intro _; exact List.Pairwise.nil
  | @cons x y r a b h hr ih =>
    intro hd
    have hd2 : (y :: (a ++ b)).Pairwise Df := (List.perm_middle.pairwise_iff (fun {_ _} hxy b hb hb' => hxy b hb' hb)).1 hd
    obtain ⟨h1, h2⟩ := List.pairwise_cons.1 hd2
    refine List.pairwise_cons.2 ⟨fun z hz c hc hzc => ?_, ih h2⟩
    obtain ⟨y2, hy2, hle⟩ := pO hr z hz
    exact h1 y2 hy2 c (by rw [← h.id]; exact hc) (by rw [← hle.id]; exact hzc)
section
variable {P : Program} {X : Ctx} {Q : Exit → Act → World → Prop} {μ : Mem} {l : aF} {L : List Bk} {a : Act} {w : World}
theorem St.sel {l' : aF} {L' : List Bk} (h : St X μ l L a w) (hl : lH l' l) (hL : Sel L' L) : St X μ l' L' a w :=
  ⟨h.size, h.defers, fun t v hv => h.slots t v (hl t v hv), h.aT, h.mem, h.from0, h.fresh, fun x hx => let ⟨y, hy, hle⟩ := pO hL x hx; hle.at (h.own y hy), fun x hx b hb => let ⟨y, hy, hle⟩ := pO hL x hx; h.priv y hy b (by rw [← hle.id]; exact hb), fun x hx b hb => let ⟨y, hy, hle⟩ := pO hL x hx; h.new y hy b (by rw [← hle.id]; exact hb), YD hL h.diff⟩
theorem aAh {ι : Type} {J : ι → Prop} {μs : ι → Mem} {ls : ι → aF} {Ls : ι → List Bk} (j : ι) (hJ : J j) (hμ : μs j = μ) (hl : lH (ls j) l) (hL : Sel (Ls j) L) :
    GQ X (Exit.then (XD X J μs ls Ls) Q) .normal μ l L := fun a w hs => ⟨j, hJ, by rw [hμ]; exact hs.sel hl hL⟩
theorem eS {ι : Type} {J : ι → Prop} {m : ι → Nat} {μs : ι → Mem} {ls : ι → aF} {Ls : ι → List Bk} {i : ι} (j : ι) (hJ : J j) (hm : m j < m i) (hμ : μs j = μ) (hl : lH (ls j) l) (hL : Sel (Ls j) L) :
    GQ X (Exit.then (aBe X J m μs ls Ls i) Q) .normal μ l L := fun a w hs => ⟨j, hJ, hm, by rw [hμ]; exact hs.sel hl hL⟩
theorem bY {c : Code} {l' : aF} {L' : List Bk} (hl : lH l' l) (hL : Sel L' L) (h : GC P X c Q μ l' L') : GC P X c Q μ l L := fun a w hs => h a w (hs.sel hl hL)
theorem aM {e : Exit} {l' : aF} {L' : List Bk} (hl : lH l' l) (hL : Sel L' L) (h : GQ X Q e μ l' L') : GQ X Q e μ l L := fun a w hs => h a w (hs.sel hl hL)
theorem rU {x y : Bk} {r L : List Bk} (h : eV x y) (hr : Sel r (L)) : Sel (x :: r) (y :: L) := Sel.cons (a := []) h hr
theorem RR {x y : Bk} {y0 : Bk} {r L : List Bk} (h : eV x y) (hr : Sel r (y0 :: L)) : Sel (x :: r) (y0 :: y :: L) := Sel.cons (a := [y0]) h hr
theorem aDj {x y : Bk} {y0 y1 : Bk} {r L : List Bk} (h : eV x y) (hr : Sel r (y0 :: y1 :: L)) : Sel (x :: r) (y0 :: y1 :: y :: L) := Sel.cons (a := [y0, y1]) h hr
theorem aGe {x y : Bk} {y0 y1 y2 : Bk} {r L : List Bk} (h : eV x y) (hr : Sel r (y0 :: y1 :: y2 :: L)) : Sel (x :: r) (y0 :: y1 :: y2 :: y :: L) := Sel.cons (a := [y0, y1, y2]) h hr
theorem aGd {x y : Bk} {y0 y1 y2 y3 : Bk} {r L : List Bk} (h : eV x y) (hr : Sel r (y0 :: y1 :: y2 :: y3 :: L)) : Sel (x :: r) (y0 :: y1 :: y2 :: y3 :: y :: L) := Sel.cons (a := [y0, y1, y2, y3]) h hr
theorem aGc {x y : Bk} {y0 y1 y2 y3 y4 : Bk} {r L : List Bk} (h : eV x y) (hr : Sel r (y0 :: y1 :: y2 :: y3 :: y4 :: L)) : Sel (x :: r) (y0 :: y1 :: y2 :: y3 :: y4 :: y :: L) := Sel.cons (a := [y0, y1, y2, y3, y4]) h hr
theorem aGb {x y : Bk} {y0 y1 y2 y3 y4 y5 : Bk} {r L : List Bk} (h : eV x y) (hr : Sel r (y0 :: y1 :: y2 :: y3 :: y4 :: y5 :: L)) : Sel (x :: r) (y0 :: y1 :: y2 :: y3 :: y4 :: y5 :: y :: L) := Sel.cons (a := [y0, y1, y2, y3, y4, y5]) h hr
theorem RJ : ∀ {L : List Bk} {i : Nat} {x : Bk}, cO L i = some x → dY L i x = L
  | [], _, _, h => by simp [cO] at h
  | y :: r, 0, x, h => by simp [cO] at h; simp [dY, h]
  | y :: r, i + 1, x, h => by simp only [dY]; rw [RJ (i := i) (by simpa [cO] using h)]
theorem St.SB {i : Nat} {v : Value} {e s n n' : Nat} {xs xs' : List Value} (h : St X μ l L a w) (hi : cO L i = some (.inr ⟨v, e, s, n, xs⟩)) (hn : n = n') (hx : xs = xs') : St X μ l (dY L i (.inr ⟨v, e, s, n', xs'⟩)) a w := by
  subst hn hx
  rw [RJ hi]
  exact h
theorem dQ {ex : Exit} {v : Value} {e s n n' : Nat} {xs xs' : List Value} (i : Nat) (hi : cO L i = some (.inr ⟨v, e, s, n, xs⟩)) (hn : n = n') (hx : xs = xs') (h : GQ X Q ex μ l (dY L i (.inr ⟨v, e, s, n', xs'⟩))) : GQ X Q ex μ l L := fun a w hs => h a w (hs.SB hi hn hx)
theorem TO {c : Code} (e s : Nat) (h : GC P X c Q μ l (.inr ⟨.slice none 0 0, e, s, 0, []⟩ :: L)) : GC P X c Q μ l L := fun a w hs => h a w (hs.rE e s)
def GCs (P : Program) (X : Ctx) (c : Code) (Q : Exit → Act → World → Prop) (μ : Mem) (l : aF) (L : List Bk) : Prop := GC P X c Q μ l L
theorem aY {c : Code} (h : GCs P X c Q μ l L) : GC P X c Q μ l L := h
theorem gcs {c : Code} (h : GC P X c Q μ l L) : GCs P X c Q μ l L := h
end
end
section
open Go.RowKit
section
variable {P : Program} {X : Ctx} {ops : Array Oper} {Q : Exit → Act → World → Prop} {rest : List Oper} {μ μr : Mem} {l : aF} {L Lr : List Bk} {a : Act} {w : World} {o : Oper} {d fuel i : Nat} {listed : Array Bool}
variable {ty : TypeId} {pos : String} {af : Array Edge} {gd : Option (Nat × Bool)} {ds : Option Nat}
theorem Y0 {b off : Nat} {vs : List Value} {L' : List Bk} (hg : G P X ops Q rest μ l L')
    (hd : SN ops l o = true := by first | exact rfl | fail)
    (h : stop P l o.op = some (b, off, vs) := by first | exact rfl | fail)
    (h1 : GY vs := by first | (repeat first | with_reducible exact bH | ((with_reducible apply aU); (first | exact rfl | assumption))); done | fail)
    (hu : UpB L b off vs L' := by first | (repeat first | with_reducible apply iD | with_reducible apply iC); exact rfl; (repeat first | with_reducible exact iE | with_reducible apply fK); done | fail) :
    G P X ops Q (o :: rest) μ l L := sN (hd := hd) (h := h) (h1 := h1) (hu := hu) (hg := hg)
theorem J1 {ι : Type} {J : ι → Prop} {μs : ι → Mem} {ls : ι → aF} {Ls : ι → List Bk} (j : ι) (hJ : J j)
    (hμ : μs j = μ := by first | exact rfl | fail)
    (hl : lH (ls j) l := by first | (repeat first | exact dZ | refine dT rfl ?_); done | fail)
    (hL : Sel (Ls j) L := by first | (repeat first | exact Sel.nil _ | (refine rU ?_ ?_; focus (first | exact eV.refl _ | (refine eV.cells ?_; repeat first | exact dZ | refine dT rfl ?_))) | (refine RR ?_ ?_; focus (first | exact eV.refl _ | (refine eV.cells ?_; repeat first | exact dZ | refine dT rfl ?_))) | (refine aDj ?_ ?_; focus (exact eV.refl _))); done | fail) :
    GQ X (Exit.then (XD X J μs ls Ls) Q) .normal μ l L := aAh (j := j) (hJ := hJ) (hμ := hμ) (hl := hl) (hL := hL)
theorem J2 {ι : Type} {J : ι → Prop} {m : ι → Nat} {μs : ι → Mem} {ls : ι → aF} {Ls : ι → List Bk} {i : ι} (j : ι) (hJ : J j) (hm : m j < m i)
    (hμ : μs j = μ := by first | exact rfl | fail)
    (hl : lH (ls j) l := by first | (repeat first | exact dZ | refine dT rfl ?_); done | fail)
    (hL : Sel (Ls j) L := by first | (repeat first | exact Sel.nil _ | (refine rU ?_ ?_; focus (exact eV.refl _)) | (refine RR ?_ ?_; focus (first | exact eV.refl _ | (refine eV.cells ?_; repeat first | exact dZ | refine dT rfl ?_)))); done | fail) :
    GQ X (Exit.then (aBe X J m μs ls Ls i) Q) .normal μ l L := eS (j := j) (hJ := hJ) (hm := hm) (hμ := hμ) (hl := hl) (hL := hL)
theorem J3 {ι : Type} {J : ι → Prop} {μs : ι → Mem} {ls : ι → aF} {Ls : ι → List Bk} (j : ι) (hJ : J j)
    (hμ : μs j = μ := by first | exact rfl | fail)
    (hl : lH (ls j) l := by first | (repeat first | exact dZ | refine dT rfl ?_); done | fail)
    (hL : (Ls j).Sublist L := by first | (repeat exact List.Sublist.refl _); done | fail) :
    GQ X (Exit.then (XD X J μs ls Ls) Q) .normal μ l L := aCt (j := j) (hJ := hJ) (hμ := hμ) (hl := hl) (hL := hL)
theorem J4 {ι : Type} {J : ι → Prop} {m : ι → Nat} {μs : ι → Mem} {ls : ι → aF} {Ls : ι → List Bk} {i : ι} (j : ι) (hJ : J j) (hm : m j < m i)
    (hμ : μs j = μ := by first | exact rfl | fail)
    (hl : lH (ls j) l := by first | (repeat first | exact dZ | refine dT rfl ?_); done | fail)
    (hL : (Ls j).Sublist L := by first | (repeat first | exact List.Sublist.refl _ | refine List.Sublist.cons _ ?_); done | fail) :
    GQ X (Exit.then (aBe X J m μs ls Ls i) Q) .normal μ l L := lS (j := j) (hJ := hJ) (hm := hm) (hμ := hμ) (hl := hl) (hL := hL)
theorem J5 {l' : aF} {L' : List Bk} (h : St X μ l L a w)
    (hl : lH l' l := by first | (repeat first | exact dZ | refine dT rfl ?_); done | fail)
    (hL : Sel L' L := by first | (repeat first | exact Sel.nil _ | (refine rU ?_ ?_; focus (first | exact eV.refl _ | (refine eV.cells ?_; repeat first | exact dZ | refine dT rfl ?_)))); done | fail) :
    St X μ l' L' a w := St.sel (h := h) (hl := hl) (hL := hL)
theorem J6 {X : Ctx} {μ : Mem} {l l' : aF} {L L' : List Bk} {a : Act} {w : World} (h : St X μ l L a w)
    (hl : lH l' l := by first | (repeat first | exact dZ | refine dT rfl ?_); done | fail)
    (hL : L'.Sublist L := by first | (repeat exact List.Sublist.refl _); done | fail) :
    St X μ l' L' a w := St.sub (h := h) (hl := hl) (hL := hL)
theorem D1 {v : Value} (i : Nat) (hg : GA P X μr Lr ops Q fuel (listed.setIfInBounds i true) μ ((d, v) :: l) L)
    (h : vF P X.n ops l i = some (d, v) := by first | exact rfl | fail)
    (hk : pH ops listed i = true := by first | kernel_rfl | fail)
    (hQ : ∀ c a w, Q (.panic c) (Act.put a (some d) v) w → Q (.panic c) a w := by exact fun _ _ _ h => h) :
    GA P X μr Lr ops Q (fuel + 1) listed μ l L := aGs (i := i) (h := h) (hk := hk) (hQ := hQ) (hg := hg)
theorem D3  (i : Nat) (h : bO P X μr Lr ops Q fuel listed i μ l L)
    (hr : Region.ready .any ops listed = [i] := by first | kernel_rfl | fail) :
    GA P X μr Lr ops Q (fuel + 1) listed μ l L := aCz (i := i) (hr := hr) (h := h)
theorem D5  (h : G P X ops (QA Q (fun a w => Sm μr Lr w ∧ wpAnyH P .any ops Q (Sm μr Lr) fuel (listed.setIfInBounds i true) a w)) [o] μ l L)
    (ho : mW ops.toList i = some o := by first | exact rfl | fail) :
    bO P X μr Lr ops Q fuel listed i μ l L := aE9 (ho := ho) (h := h)
theorem D6 {i : Nat} (h : GA P X μr Lr ops Q fuel (listed.setIfInBounds i true) μ ((d, undef) :: l) L)
    (ho : mW ops.toList i = some o := by first | exact rfl | fail)
    (hd : o.dst = some d := by first | exact rfl | fail)
    (hn : Nat.blt d X.n = true := by first | exact rfl | fail)
    (hw : dH ops l o = some false := by first | exact rfl | fail) :
    bO P X μr Lr ops Q fuel listed i μ l L := WR (ho := ho) (hd := hd) (hn := hn) (hw := hw) (h := h)
theorem D7 {t : Nat} {b : Bool} (i : Nat) (hg : PIf b (GA P X μr Lr ops Q fuel listed μ ((t, .bool true) :: l) L) (GA P X μr Lr ops Q fuel listed μ ((t, .bool false) :: l) L))
    (ho : mW ops.toList i = some o := by first | exact rfl | fail)
    (h : DF ops l o = some (t, b) := by first | exact rfl | fail)
    (hb : zT b := by (fail_if_success (with_reducible show zT true)); (fail_if_success (with_reducible show zT false)); exact aGl _) :
    GA P X μr Lr ops Q fuel listed μ l L := aGt (i := i) (ho := ho) (h := h) (hb := hb) (hg := hg)
theorem D8  (h : GQ X Q .normal μ l L)
    (hr : Region.ready .any ops listed = [] := by first | kernel_rfl | fail) :
    GA P X μr Lr ops Q fuel listed μ l L := aCx (hr := hr) (h := h)
theorem D9  (h : GA P X μr Lr ops Q fuel listed μ l L)
    (hle : MLe μr μ := by first | exact MLe.refl _ | assumption | (focus (repeat (first | assumption | (apply MLe.trans; rotate_left; assumption)))); done | fail)
    (hLr : Lr.Sublist L := by first | (repeat first | exact List.Sublist.refl _ | exact List.nil_sublist _ | refine List.Sublist.cons_cons _ ?_ | refine List.Sublist.cons _ ?_); done | fail) :
    G P X ops (QA Q (fun a w => Sm μr Lr w ∧ wpAnyH P .any ops Q (Sm μr Lr) fuel listed a w)) [] μ l L := aAn (hle := hle) (hLr := hLr) (h := h)
theorem EN {A : Prop} (h : A := by first | ((with_reducible apply aC6); kernel_rfl) | ((with_reducible apply dV); kernel_rfl; exact rfl) | ((with_reducible apply aL); kernel_rfl; exact rfl; exact rfl) | ((with_reducible apply nW); kernel_rfl; (iterate 3 exact rfl)) | fail) : A := h
theorem C1  {f : FuncId} {vs : Array Value} {v : Value} (hd : oV X.n ops l o = some d) (hr : Ent P μ l L o f vs) (hc : ∀ w μc, MOk μc w → MM μc μ L → Calls P f vs w fun e w' => e = .returned v ∧ Below w.heap.size w w') (h : G P X ops Q rest μ ((d, v) :: l) L) :
    G P X ops Q (o :: rest) μ l L := by
  obtain ⟨h1, h2, h3⟩ := fP hd
  exact DG (hd := h1) (hn := h2) (hw := h3) (hr := hr) (hc := hc) (h := h)
theorem F1 (f : FuncId) {qs : Array Operand} {ts : Array TypeId} {vs : Array Value} {v : Value} (hd : oV X.n ops l ⟨ds, .call { callee := .value (.func f), args := qs, argTypes := ts }, ty, pos, af, gd⟩ = some d) (hr : Ent P μ l L ⟨ds, .call { callee := .value (.func f), args := qs, argTypes := ts }, ty, pos, af, gd⟩ f vs) (hc : ∀ w μc, MOk μc w → MM μc μ L → Calls P f vs w fun e w' => e = .returned v ∧ Below w.heap.size w w') (h : G P X ops Q rest μ ((d, v) :: l) L) :
    G P X ops Q (⟨ds, .call { callee := .value (.func f), args := qs, argTypes := ts }, ty, pos, af, gd⟩ :: rest) μ l L := by
  obtain ⟨h1, h2, h3⟩ := fP hd
  exact DG (hd := h1) (hn := h2) (hw := h3) (hr := hr) (hc := hc) (h := h)
theorem C2  {f : FuncId} {vs : Array Value} {Post : Mem → Value → Prop} (hd : oV X.n ops l o = some d) (hr : Ent P μ l L o f vs) (hc : ∀ w, MOk μ w → Calls P f vs w fun e w' => ∃ v μ', e = .returned v ∧ Grow w w' μ μ' ∧ Post μ' v) (h : ∀ v μ', MLe μ μ' → Post μ' v → G P X ops Q rest μ' ((d, v) :: l) L) :
    G P X ops Q (o :: rest) μ l L := by
  obtain ⟨h1, h2, h3⟩ := fP hd
  exact DH (hd := h1) (hn := h2) (hw := h3) (hr := hr) (hc := hc) (h := h)
theorem F2 (f : FuncId) {qs : Array Operand} {ts : Array TypeId} {vs : Array Value} {Post : Mem → Value → Prop} (hd : oV X.n ops l ⟨ds, .call { callee := .value (.func f), args := qs, argTypes := ts }, ty, pos, af, gd⟩ = some d) (hr : Ent P μ l L ⟨ds, .call { callee := .value (.func f), args := qs, argTypes := ts }, ty, pos, af, gd⟩ f vs) (hc : ∀ w, MOk μ w → Calls P f vs w fun e w' => ∃ v μ', e = .returned v ∧ Grow w w' μ μ' ∧ Post μ' v) (h : ∀ v μ', MLe μ μ' → Post μ' v → G P X ops Q rest μ' ((d, v) :: l) L) :
    G P X ops Q (⟨ds, .call { callee := .value (.func f), args := qs, argTypes := ts }, ty, pos, af, gd⟩ :: rest) μ l L := by
  obtain ⟨h1, h2, h3⟩ := fP hd
  exact DH (hd := h1) (hn := h2) (hw := h3) (hr := hr) (hc := hc) (h := h)
theorem F3 (f : FuncId) {qs : Array Operand} {ts : Array TypeId} {vs : Array Value} {e s n : Nat} {xs : List Value} (hd : oV X.n ops l ⟨ds, .call { callee := .value (.func f), args := qs, argTypes := ts }, ty, pos, af, gd⟩ = some d) (hr : Ent P μ l L ⟨ds, .call { callee := .value (.func f), args := qs, argTypes := ts }, ty, pos, af, gd⟩ f vs) (hc : ∀ w μc, MOk μc w → MM μc μ L → Calls P f vs w (vS w e s n xs)) (h : ∀ v, G P X ops Q rest μ ((d, v) :: l) (.inr ⟨v, e, s, n, xs⟩ :: L)) :
    G P X ops Q (⟨ds, .call { callee := .value (.func f), args := qs, argTypes := ts }, ty, pos, af, gd⟩ :: rest) μ l L := by
  obtain ⟨h1, h2, h3⟩ := fP hd
  exact LA (hd := h1) (hn := h2) (hw := h3) (hr := hr) (hc := hc) (h := h)
def dC (A B : Prop) : Prop := A → B
def DStep (_ : Nat) (A B : Prop) : Prop := A → B
theorem HT {x y : Code}  :
    dC (GC P X x (Exit.then (y.wp P Q) Q) μ l L) (GC P X (.seq x y) Q μ l L) := fun h => tU (h := h)
theorem uF {id : Nat} {ops : List Oper}  :
    dC (G P X ops.toArray Q ops μ l L) (GC P X (.region id ops.toArray false) Q μ l L) := fun h => WO (h := h)
theorem RX {ops : Array Oper}  :
    dC (GQ X Q .normal μ l L) (G P X ops Q [] μ l L) := fun h => aGu (h := h)
theorem BN {y : Code}  :
    dC (GC P X y Q μ l L) (GQ X (Exit.then (y.wp P Q) Q) .normal μ l L) := fun h => TN (h := h)
theorem wP {id : Nat} {c : Code}  :
    dC (GC P X c (Exit.inBlock id Q) μ l L) (GC P X (.block id c) Q μ l L) := fun h => aAi (h := h)
theorem BQ {id : Nat}  :
    dC (GQ X Q (.exit id) μ l L) (GC P X (.exit id) Q μ l L) := fun h => aCv (h := h)
theorem HU   :
    dC (GQ X Q .ret μ l L) (GC P X .ret Q μ l L) := fun h => aE8 (h := h)
theorem BO   :
    dC (GQ X Q .normal μ l L) (GC P X .skip Q μ l L) := fun h => aCu (h := h)
theorem oM {K : Act → World → Prop} {i : Nat}  :
    dC (GQ X Q (.exit i) μ l L) (GQ X (Exit.then K Q) (.exit i) μ l L) := fun h => GH (h := h)
theorem qJ {K : Act → World → Prop}  :
    dC (GQ X Q .ret μ l L) (GQ X (Exit.then K Q) .ret μ l L) := fun h => KY (h := h)
theorem nY {i : Nat}  :
    dC (GQ X Q .normal μ l L) (GQ X (Exit.inBlock i Q) (.exit i) μ l L) := fun h => AG (h := h)
theorem lL {i : Nat}  :
    dC (GQ X Q .normal μ l L) (GQ X (Exit.inBlock i Q) .normal μ l L) := fun h => uX (h := h)
theorem oN {i : Nat}  :
    dC (GQ X Q .ret μ l L) (GQ X (Exit.inBlock i Q) .ret μ l L) := fun h => GI (h := h)
theorem RT {p q : Prop}  :
    dC (p) (PIf true p q) := fun h => aDq (h := h)
theorem RU {p q : Prop}  :
    dC (q) (PIf false p q) := fun h => aDr (h := h)
theorem BM {b : Bool} {p q : Prop}  :
    dC (PIf b q p) (PIf (!b) p q) := fun h => aB5 (h := h)
theorem aDl {v : Value} (h : IW P X.n ops l o = some (d, v)) :
    dC (G P X ops Q rest μ ((d, v) :: l) L) (G P X ops Q (o :: rest) μ l L) := fun hg => g_p (h := h) (hg := hg)
theorem RW {c : Operand} {x y : Code} {b : Bool} (hc : ev l c = some (.bool b)) :
    dC (PIf b (GC P X x Q μ l L) (GC P X y Q μ l L)) (GC P X (.cond c x y) Q μ l L) := fun h => aGp (hc := hc) (h := h)
theorem wN {c p q : Prop} {_ : Decidable c} (hc : c) :
    dC (p) (PIf (decide c) p q) := fun h => ZB (hc := hc) (h := h)
theorem wO {c p q : Prop} {_ : Decidable c} (hc : ¬ c) :
    dC (q) (PIf (decide c) p q) := fun h => ZC (hc := hc) (h := h)
theorem YE {b : Bool} {p q : Prop} (hb : b = true) :
    dC (p) (PIf b p q) := fun h => aEt (hb := hb) (h := h)
theorem YF {b : Bool} {p q : Prop} (hb : b = false) :
    dC (q) (PIf b p q) := fun h => aEu (hb := hb) (h := h)
theorem YI {r : Int} (h : QX X.n ops l o = some (d, r)) (hb : -9223372036854775808 ≤ r ∧ r ≤ 9223372036854775807) :
    dC (G P X ops Q rest μ ((d, .int .i64 r) :: l) L) (G P X ops Q (o :: rest) μ l L) := fun hg => aHk (h := h) (hb := hb) (hg := hg)
theorem YH {t b off : Nat} {y : Blk} {v : Value} (hd : oV X.n ops l o = some d) (h : aCq l o.op = some (t, b, off)) (hb : InB L b y) (hv : ldv P t y.cs off = some v) :
    dC (G P X ops Q rest μ ((d, v) :: l) L) (G P X ops Q (o :: rest) μ l L) := fun hg => aHh (hd := hd) (h := h) (hb := hb) (hv := hv) (hg := hg)
theorem aDk {v : Value} (hd : oV X.n ops l o = some d) (hr : Val P μ l L o v) :
    dC (G P X ops Q rest μ ((d, v) :: l) L) (G P X ops Q (o :: rest) μ l L) := fun h => g_v (hd := hd) (hr := hr) (h := h)
theorem YG {b off : Nat} {vs : List Value} {L' : List Bk} (hd : SN ops l o = true) (h : stop P l o.op = some (b, off, vs)) (h1 : GY vs) (hu : UpB L b off vs L') :
    dC (G P X ops Q rest μ l L') (G P X ops Q (o :: rest) μ l L) := fun hg => sN (hd := hd) (h := h) (h1 := h1) (hu := hu) (hg := hg)
theorem mM {i j : Nat} (hij : Nat.beq j i = false) :
    dC (GQ X Q (.exit j) μ l L) (GQ X (Exit.inBlock i Q) (.exit j) μ l L) := fun h => yV (hij := hij) (h := h)
theorem aEg {t : Nat} {b : Bool} (h : DF ops l o = some (t, b)) (hb : zT b) :
    dC (PIf b (G P X ops Q (o :: rest) μ ((t, .bool true) :: l) L) (G P X ops Q (o :: rest) μ ((t, .bool false) :: l) L)) (G P X ops Q (o :: rest) μ l L) := fun hg => aHi (h := h) (hb := hb) (hg := hg)
theorem aEf {t : TypeId} {cs : List Value} {n : Nat} (hd : oV X.n ops l o = some d) (h : aCc P l o.op = some (t, cs)) (hn : qL cs.length some = some n) :
    dC (∀ b, G P X ops Q rest μ ((d, .pointer (some ⟨b, 0, none⟩)) :: l) (.inl ⟨b, t, n, idx 0 cs⟩ :: L)) (G P X ops Q (o :: rest) μ l L) := fun hg => aHf (hd := hd) (h := h) (hn := hn) (hg := hg)
theorem aEh {t : TypeId} {cs : List Value} {n m : Nat} (hd : oV X.n ops l o = some d) (h : aDb P l o.op = some (t, m, cs)) (hn : qL cs.length some = some n) :
    dC (∀ b, G P X ops Q rest μ ((d, .slice (some ⟨b, 0, none⟩) m m) :: l) (.inl ⟨b, t, n, idx 0 cs⟩ :: L)) (G P X ops Q (o :: rest) μ l L) := fun hg => aHj (hd := hd) (h := h) (hn := hn) (hg := hg)
theorem aEi {c p q : Prop} {_ : Decidable c} : dC ((c → p) ∧ (¬c → q)) (PIf (decide c) p q) := fun h => aB6 h.1 h.2
theorem aG8 {b : Bool} {p q : Prop} : dC ((b = true → p) ∧ (b = false → q)) (PIf b p q) := fun h => aGh h.1 h.2
theorem KO {A B : Prop} (h : A)
    (f : dC A B := by first | ((with_reducible (first | apply HT | apply uF | apply RX | apply BN | apply wP | apply BQ | apply HU | apply BO | apply oM | apply qJ | apply nY | apply lL | apply oN | apply RT | apply RU | apply BM))) | ((with_reducible apply aDl); exact rfl) | ((with_reducible apply RW); exact rfl) | ((with_reducible apply wN); (first | omega | with_reducible rfl)) | ((with_reducible apply wO); (omega)) | ((with_reducible apply YE); exact rfl) | ((with_reducible apply YF); exact rfl) | fail) : B := f h
theorem KK {A B : Prop} (h : A)
    (f : dC A B := by first | ((with_reducible (first | apply HT | apply uF | apply RX | apply BN | apply wP | apply BQ | apply HU | apply BO | apply oM | apply qJ | apply nY | apply lL | apply oN | apply RT | apply RU | apply BM))) | ((with_reducible apply aDl); exact rfl) | ((with_reducible apply RW); exact rfl) | ((with_reducible apply wN); (omega)) | ((with_reducible apply wO); (first | omega | with_reducible exact WA _)) | ((with_reducible apply YI); exact rfl; omega) | ((with_reducible apply YH); exact rfl; exact rfl; (repeat first | with_reducible exact bG | with_reducible apply dJ); exact rfl) | ((with_reducible apply aDk); exact rfl; (first | ((with_reducible apply MV); (iterate 3 exact rfl); omega) | ((with_reducible apply uB); exact rfl; omega))) | ((with_reducible apply YG); exact rfl; exact rfl; (repeat first | with_reducible exact bH | ((with_reducible apply aU); (exact rfl))); (repeat first | with_reducible apply iD | with_reducible apply iC); exact rfl; (repeat first | with_reducible exact iE | with_reducible apply fK)) | ((with_reducible apply mM); exact rfl) | fail) : B := f h
theorem KI {A B : Prop} (h : A)
    (f : dC A B := by first | ((with_reducible apply YI); exact rfl; omega) | ((with_reducible apply YH); exact rfl; exact rfl; (repeat first | with_reducible exact bG | with_reducible apply dJ); exact rfl) | ((with_reducible apply aDk); exact rfl; (first | ((with_reducible apply AT); exact rfl; exact rfl) | ((with_reducible apply MP); (iterate 3 exact rfl); omega) | ((with_reducible apply RH); exact rfl; omega))) | ((with_reducible apply YG); exact rfl; exact rfl; (repeat first | with_reducible exact bH | ((with_reducible apply aU); (first | exact rfl | assumption))); (repeat first | with_reducible apply iD | with_reducible apply iC); exact rfl; (repeat first | with_reducible exact iE | with_reducible apply fK)) | ((with_reducible apply mM); exact rfl) | fail) : B := f h
theorem KG {A B : Prop} (h : A)
    (f : dC A B := by (with_reducible apply aEg); exact rfl; (fail_if_success (with_reducible show zT true)); (fail_if_success (with_reducible show zT false)); exact aGl _) : B := f h
theorem KB {A B C : Prop} (h1 : A) (h2 : B)
    (f : dC (A ∧ B) C := by with_reducible (first | exact aEi | exact aG8 | fail)) : C := f ⟨h1, h2⟩
theorem NB {A : Nat → Prop} {B : Prop} (h : ∀ b, A b)
    (f : dC (∀ b, A b) B := by first | ((with_reducible apply aEf); (iterate 3 exact rfl)) | ((with_reducible apply aEh); (iterate 3 exact rfl)) | fail) : B := f h
def UE (_ : Nat) (B : Prop) : Prop := B
theorem E1 {i : Nat} {v : Value} (h : vF P X.n ops l i = some (d, v)) (hk : pH ops listed i = true) (hQ : ∀ c a w, Q (.panic c) (Act.put a (some d) v) w → Q (.panic c) a w) :
    DStep i (GA P X μr Lr ops Q fuel (listed.setIfInBounds i true) μ ((d, v) :: l) L) (GA P X μr Lr ops Q (fuel + 1) listed μ l L) := fun hg => aGs (i := i) (h := h) (hk := hk) (hQ := hQ) (hg := hg)
theorem E2 {i : Nat} {v : Value} (h : xS X.n ops l i = some (d, o)) (hk : pH ops listed i = true) (hQ : ∀ c a w, Q (.panic c) (Act.put a (some d) v) w → Q (.panic c) a w) (hv : Val P μr l Lr o v) :
    DStep i (GA P X μr Lr ops Q fuel (listed.setIfInBounds i true) μ ((d, v) :: l) L) (GA P X μr Lr ops Q (fuel + 1) listed μ l L) := fun hg => aGr (i := i) (h := h) (hk := hk) (hQ := hQ) (hv := hv) (hg := hg)
theorem DD (i : Nat) {A B : Prop} (h : A)
    (f : DStep i A B := by first | ((with_reducible apply E1); exact rfl; kernel_rfl; (exact fun _ _ _ h => h)) | ((with_reducible apply E2); exact rfl; kernel_rfl; (exact fun _ _ _ h => h); (first | ((with_reducible apply AT); exact rfl; exact rfl) | ((with_reducible apply iQ); exact rfl; (repeat first | with_reducible exact bG | with_reducible apply dJ); exact rfl) | ((with_reducible apply RE); exact rfl; exact rfl; (omega); (omega)) | ((with_reducible apply RD); exact rfl; exact rfl; (omega)) | ((with_reducible apply DU); exact rfl; omega))) | fail) : B := f h
theorem X1 {k : Nat} {p q : Operand} {t e : TypeId} {A : Addr} {len cap n : Nat} {i : Int} (ht : P.underlying t = some (.slice e)) (hs : bA P e = some n) (hx0 : ev l p = some (.slice (some A) len cap)) (hx1 : ev l q = some (.int .i64 i)) (hi : i = (k : Int)) (hk : k < len) :
    UE k (Val P μ l L ⟨ds, .indexAddr t p q, ty, pos, af, gd⟩ (.pointer (some (A.add (k * n))))) := aBk (k := k) (ht := ht) (hs := hs) (hx0 := hx0) (hx1 := hx1) (hi := hi) (hk := hk)
theorem X2 {k : Nat} {p q : Operand} {t : TypeId} {s : ByteArray} {i : Int} (ht : P.underlying t = some .string) (hx0 : ev l p = some (.string s)) (hx1 : ev l q = some (.int .i64 i)) (hi : i = (k : Int)) (hk : k < s.size) :
    UE k (Val P μ l L ⟨ds, .index t p q, ty, pos, af, gd⟩ (.int .u8 (bAt s k))) := HG (k := k) (ht := ht) (hx0 := hx0) (hx1 := hx1) (hi := hi) (hk := hk)
theorem U1 (k : Nat) {B : Prop} (f : UE k B := by (with_reducible apply X1); (iterate 4 exact rfl); (first | exact rfl | omega); omega) : B := f
theorem U2 (k : Nat) {B : Prop} (f : UE k B := by (with_reducible apply X2); (iterate 3 exact rfl); (first | exact rfl | omega); omega) : B := f
theorem U3 {M B : Prop} (hm : M) (f : M → B := by intro h; (with_reducible apply AS); exact rfl; exact rfl; exact h) : B := f hm
theorem U4 {M B : Prop} (hm : M) (f : M → B := by intro h; first | ((with_reducible apply MT); (iterate 3 exact rfl); exact h; exact rfl) | ((with_reducible apply aBj); (iterate 3 exact rfl); exact h; exact rfl) | fail) : B := f hm
theorem PU {l l' : aF} (h : lH l' l := by first | (repeat first | exact dZ | refine dT rfl ?_); done | fail) : lH l' l := h
theorem PS {L L' : List Bk} (h : Sel L' L := by first | (repeat first | exact Sel.nil _ | (refine rU ?_ ?_; focus (first | exact eV.refl _ | (refine eV.cells ?_; repeat first | exact dZ | refine dT rfl ?_))) | (refine RR ?_ ?_; focus (first | exact eV.refl _ | (refine eV.cells ?_; repeat first | exact dZ | refine dT rfl ?_))) | (refine aDj ?_ ?_; focus (exact eV.refl _)) | (refine aGe ?_ ?_; focus (first | exact eV.refl _ | (refine eV.cells ?_; repeat first | exact dZ | refine dT rfl ?_))) | (refine aGd ?_ ?_; focus (exact eV.refl _)) | (refine aGc ?_ ?_; focus (exact eV.refl _)) | (refine aGb ?_ ?_; focus (exact eV.refl _))); done | fail) : Sel L' L := h
theorem CF (f : FuncId) {qs : Array Operand} {ts : Array TypeId} (h : G P X ops Q (⟨ds, .call { callee := .value (.func f), args := qs, argTypes := ts }, ty, pos, af, gd⟩ :: rest) μ l L) : G P X ops Q (⟨ds, .call { callee := .value (.func f), args := qs, argTypes := ts }, ty, pos, af, gd⟩ :: rest) μ l L := h
theorem DV {v : Value}
    (k : Nat)
    (h1 : xS X.n ops l k = some (d, o) := by first | exact rfl | fail)
    (h2 : pH ops listed k = true := by first | kernel_rfl | fail)
    (h3 : ∀ c a w, Q (.panic c) (Act.put a (some d) v) w → Q (.panic c) a w := by exact fun _ _ _ h => h)
    (b : Val P μr l Lr o v)
    (c : GA P X μr Lr ops Q fuel (listed.setIfInBounds k true) μ ((d, v) :: l) L) :
    GA P X μr Lr ops Q (fuel + 1) listed μ l L := aGr (i := k) (h := h1) (hk := h2) (hQ := h3) (hv := b) (hg := c)
theorem KV {v : Value}
    (hd : oV X.n ops l o = some d := by first | exact rfl | fail)
    (b : Val P μ l L o v)
    (c : G P X ops Q rest μ ((d, v) :: l) L) :
    G P X ops Q (o :: rest) μ l L := g_v (hd := hd) (hr := b) (h := c)
end
end
end Go.Vcg
namespace Go.Proofs.YtoclmkdfcafhfaaGreatDoor
end Go.Proofs.YtoclmkdfcafhfaaGreatDoor
