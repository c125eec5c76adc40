/- Own blocks picked out of a state's list, in another order and with less known of their cells. No statement of the seat is proved here. -/
import Derived.Test.YtmihpkdhfomcgaaGreatDoorBor
set_option maxRecDepth 20000
namespace Go.Vcg
open Go.RowKit
inductive BkLe : Bk → Bk → Prop
  | refl (x : Bk) : BkLe x x
  | cells {b : Nat} {t : TypeId} {sz : Nat} {cs cs' : Slots} (h : SubS cs' cs) : BkLe (.inl ⟨b, t, sz, cs'⟩) (.inl ⟨b, t, sz, cs⟩)
inductive Sel : List Bk → List Bk → Prop
  | nil (L : List Bk) : Sel [] L
  | cons {x y : Bk} {r a b : List Bk} (h : BkLe x y) (hr : Sel r (a ++ b)) : Sel (x :: r) (a ++ y :: b)
theorem BkLe.id {x y : Bk} (h : BkLe x y) : Bk.id x = Bk.id y := by cases h <;> rfl
theorem BkLe.at {x y : Bk} {w : World} (h : BkLe x y) (hy : Bk.at y w) : Bk.at x w := by
  cases h with
  | refl => exact hy
  | cells h =>
    obtain ⟨arr, h1, h2, h3⟩ := hy
    exact ⟨arr, h1, h2, fun k v hk => h3 k v (h k v hk)⟩
theorem sel_mem {L' L : List Bk} (h : Sel L' L) : ∀ x ∈ L', ∃ y ∈ L, BkLe x y := by
  induction h with
  | nil L => intro x hx; cases hx
  | cons h hr ih =>
    intro z hz
    rcases List.mem_cons.1 hz with rfl | hz
    · exact ⟨_, by simp, h⟩
    · obtain ⟨y, hy, hle⟩ := ih z hz
      refine ⟨y, ?_, hle⟩
      rcases List.mem_append.1 hy with hy | hy <;> simp [hy]
def Df (x y : Bk) : Prop := ∀ b, Bk.id x = some b → Bk.id y ≠ some b
theorem sel_diff {L' L : List Bk} (h : Sel L' L) : L.Pairwise Df → L'.Pairwise Df := by
  induction h with
  | nil L => intro _; exact List.Pairwise.nil
  | @cons x y r a b h hr ih =>
    intro hd
    have hd2 : (y :: (a ++ b)).Pairwise Df := (List.perm_middle.pairwise_iff (fun {_ _} hxy b hb hb' => hxy b hb' hb)).1 hd
    obtain ⟨h1, h2⟩ := List.pairwise_cons.1 hd2
    refine List.pairwise_cons.2 ⟨fun z hz c hc hzc => ?_, ih h2⟩
    obtain ⟨y2, hy2, hle⟩ := sel_mem hr z hz
    exact h1 y2 hy2 c (by rw [← h.id]; exact hc) (by rw [← hle.id]; exact hzc)
section
variable {P : Program} {X : Ctx} {Q : Exit → Act → World → Prop} {μ : Mem} {l : Slots} {L : List Bk} {a : Act} {w : World}
theorem St.sel {l' : Slots} {L' : List Bk} (h : St X μ l L a w) (hl : SubS l' l) (hL : Sel L' L) : St X μ l' L' a w :=
  ⟨h.size, h.defers, fun t v hv => h.slots t v (hl t v hv), h.keep, h.mem, h.from0, h.fresh, fun x hx => let ⟨y, hy, hle⟩ := sel_mem hL x hx; hle.at (h.own y hy), fun x hx b hb => let ⟨y, hy, hle⟩ := sel_mem hL x hx; h.priv y hy b (by rw [← hle.id]; exact hb), fun x hx b hb => let ⟨y, hy, hle⟩ := sel_mem hL x hx; h.new y hy b (by rw [← hle.id]; exact hb), sel_diff hL h.diff⟩
theorem gq_joinS {ι : Type} {J : ι → Prop} {μs : ι → Mem} {ls : ι → Slots} {Ls : ι → List Bk} (j : ι) (hJ : J j) (hμ : μs j = μ) (hl : SubS (ls j) l) (hL : Sel (Ls j) L) :
    GQ X (Exit.then (Join X J μs ls Ls) Q) .normal μ l L := fun a w hs => ⟨j, hJ, by rw [hμ]; exact hs.sel hl hL⟩
theorem gq_backS {ι : Type} {J : ι → Prop} {m : ι → Nat} {μs : ι → Mem} {ls : ι → Slots} {Ls : ι → List Bk} {i : ι} (j : ι) (hJ : J j) (hm : m j < m i) (hμ : μs j = μ) (hl : SubS (ls j) l) (hL : Sel (Ls j) L) :
    GQ X (Exit.then (Back X J m μs ls Ls i) Q) .normal μ l L := fun a w hs => ⟨j, hJ, hm, by rw [hμ]; exact hs.sel hl hL⟩
theorem gc_sel {c : Code} {l' : Slots} {L' : List Bk} (hl : SubS l' l) (hL : Sel L' L) (h : GC P X c Q μ l' L') : GC P X c Q μ l L := fun a w hs => h a w (hs.sel hl hL)
theorem gq_sel {e : Exit} {l' : Slots} {L' : List Bk} (hl : SubS l' l) (hL : Sel L' L) (h : GQ X Q e μ l' L') : GQ X Q e μ l L := fun a w hs => h a w (hs.sel hl hL)
theorem sel_0 {x y : Bk} {r L : List Bk} (h : BkLe x y) (hr : Sel r (L)) : Sel (x :: r) (y :: L) := Sel.cons (a := []) h hr
theorem sel_1 {x y : Bk} {y0 : Bk} {r L : List Bk} (h : BkLe x y) (hr : Sel r (y0 :: L)) : Sel (x :: r) (y0 :: y :: L) := Sel.cons (a := [y0]) h hr
theorem sel_2 {x y : Bk} {y0 y1 : Bk} {r L : List Bk} (h : BkLe x y) (hr : Sel r (y0 :: y1 :: L)) : Sel (x :: r) (y0 :: y1 :: y :: L) := Sel.cons (a := [y0, y1]) h hr
theorem sel_3 {x y : Bk} {y0 y1 y2 : Bk} {r L : List Bk} (h : BkLe x y) (hr : Sel r (y0 :: y1 :: y2 :: L)) : Sel (x :: r) (y0 :: y1 :: y2 :: y :: L) := Sel.cons (a := [y0, y1, y2]) h hr
theorem sel_4 {x y : Bk} {y0 y1 y2 y3 : Bk} {r L : List Bk} (h : BkLe x y) (hr : Sel r (y0 :: y1 :: y2 :: y3 :: L)) : Sel (x :: r) (y0 :: y1 :: y2 :: y3 :: y :: L) := Sel.cons (a := [y0, y1, y2, y3]) h hr
theorem sel_5 {x y : Bk} {y0 y1 y2 y3 y4 : Bk} {r L : List Bk} (h : BkLe x y) (hr : Sel r (y0 :: y1 :: y2 :: y3 :: y4 :: L)) : Sel (x :: r) (y0 :: y1 :: y2 :: y3 :: y4 :: y :: L) := Sel.cons (a := [y0, y1, y2, y3, y4]) h hr
theorem sel_6 {x y : Bk} {y0 y1 y2 y3 y4 y5 : Bk} {r L : List Bk} (h : BkLe x y) (hr : Sel r (y0 :: y1 :: y2 :: y3 :: y4 :: y5 :: L)) : Sel (x :: r) (y0 :: y1 :: y2 :: y3 :: y4 :: y5 :: y :: L) := Sel.cons (a := [y0, y1, y2, y3, y4, y5]) h hr
theorem sel_7 {x y : Bk} {y0 y1 y2 y3 y4 y5 y6 : Bk} {r L : List Bk} (h : BkLe x y) (hr : Sel r (y0 :: y1 :: y2 :: y3 :: y4 :: y5 :: y6 :: L)) : Sel (x :: r) (y0 :: y1 :: y2 :: y3 :: y4 :: y5 :: y6 :: y :: L) := Sel.cons (a := [y0, y1, y2, y3, y4, y5, y6]) h hr
theorem sel_8 {x y : Bk} {y0 y1 y2 y3 y4 y5 y6 y7 : Bk} {r L : List Bk} (h : BkLe x y) (hr : Sel r (y0 :: y1 :: y2 :: y3 :: y4 :: y5 :: y6 :: y7 :: L)) : Sel (x :: r) (y0 :: y1 :: y2 :: y3 :: y4 :: y5 :: y6 :: y7 :: y :: L) := Sel.cons (a := [y0, y1, y2, y3, y4, y5, y6, y7]) h hr
theorem updB_id : ∀ {L : List Bk} {i : Nat} {x : Bk}, nthB L i = some x → updB L i x = L
  | [], _, _, h => by simp [nthB] at h
  | y :: r, 0, x, h => by simp [nthB] at h; simp [updB, h]
  | y :: r, i + 1, x, h => by simp only [updB]; rw [updB_id (i := i) (by simpa [nthB] using h)]
theorem St.rowEq {i : Nat} {v : Value} {e s n n' : Nat} {xs xs' : List Value} (h : St X μ l L a w) (hi : nthB L i = some (.inr ⟨v, e, s, n, xs⟩)) (hn : n = n') (hx : xs = xs') : St X μ l (updB L i (.inr ⟨v, e, s, n', xs'⟩)) a w := by
  subst hn hx
  rw [updB_id hi]
  exact h
theorem gq_rowEq {ex : Exit} {v : Value} {e s n n' : Nat} {xs xs' : List Value} (i : Nat) (hi : nthB L i = some (.inr ⟨v, e, s, n, xs⟩)) (hn : n = n') (hx : xs = xs') (h : GQ X Q ex μ l (updB L i (.inr ⟨v, e, s, n', xs'⟩))) : GQ X Q ex μ l L := fun a w hs => h a w (hs.rowEq hi hn hx)
theorem gc_nilR {c : Code} (e s : Nat) (h : GC P X c Q μ l (.inr ⟨.slice none 0 0, e, s, 0, []⟩ :: L)) : GC P X c Q μ l L := fun a w hs => h a w (hs.nilRow e s)
/-- a stop for the walk's step -/
def GCs (P : Program) (X : Ctx) (c : Code) (Q : Exit → Act → World → Prop) (μ : Mem) (l : Slots) (L : List Bk) : Prop := GC P X c Q μ l L
theorem gc_stop {c : Code} (h : GCs P X c Q μ l L) : GC P X c Q μ l L := h
theorem gcs {c : Code} (h : GC P X c Q μ l L) : GCs P X c Q μ l L := h
end
end Go.Vcg
