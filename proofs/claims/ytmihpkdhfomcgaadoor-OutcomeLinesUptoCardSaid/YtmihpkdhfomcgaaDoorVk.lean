/- More rules: what is known of a block's cells, told in other words. No statement of the seat is proved here. -/
import Derived.Test.YtmihpkdhfomcgaaDoorVj
set_option maxRecDepth 20000
namespace Go.Vcg
open Go.RowKit
section
variable {P : Program} {X : Ctx} {ops : Array Oper} {Q : Exit → Act → World → Prop} {rest : List Oper} {μ μr : Mem} {l : Slots} {a : Act} {w : World} {o : Oper} {d fuel i : Nat} {listed : Array Bool}
theorem St.cells {L L' : List Bk} {i : Nat} {b t sz : Nat} {cs cs' : Slots} (h : St X μ l L a w) (hi : nthB L i = some (.inl ⟨b, t, sz, cs⟩)) (hs : SubS cs' cs) (hL : updB L i (.inl ⟨b, t, sz, cs'⟩) = L') : St X μ l L' a w := by
  rw [← hL]
  refine h.upd (w' := w) hi rfl rfl rfl (Nat.le_refl _) (fun _ _ _ => rfl) ?_ (fun b hb => .inl hb)
  obtain ⟨arr, h1, h2, h3⟩ := h.own _ (nthB_mem hi)
  exact ⟨arr, h1, h2, fun k v hk => h3 k v (hs k v hk)⟩

theorem g_cells_0 {b t sz : Nat} {cs : Slots} {L : List Bk} (cs' : Slots) (hs : SubS cs' cs) (h : G P X ops Q rest μ l (.inl ⟨b, t, sz, cs'⟩ :: L)) : G P X ops Q rest μ l (.inl ⟨b, t, sz, cs⟩ :: L) := fun a w hst => h a w (hst.cells (i := 0) rfl hs rfl)
theorem gc_cells_0 {c : Code} {b t sz : Nat} {cs : Slots} {L : List Bk} (cs' : Slots) (hs : SubS cs' cs) (h : GC P X c Q μ l (.inl ⟨b, t, sz, cs'⟩ :: L)) : GC P X c Q μ l (.inl ⟨b, t, sz, cs⟩ :: L) := fun a w hst => h a w (hst.cells (i := 0) rfl hs rfl)
theorem gq_cells_0 {e : Exit} {b t sz : Nat} {cs : Slots} {L : List Bk} (cs' : Slots) (hs : SubS cs' cs) (h : GQ X Q e μ l (.inl ⟨b, t, sz, cs'⟩ :: L)) : GQ X Q e μ l (.inl ⟨b, t, sz, cs⟩ :: L) := fun a w hst => h a w (hst.cells (i := 0) rfl hs rfl)
theorem g_cells_1 {b t sz : Nat} {cs : Slots} {y0 : Bk} {L : List Bk} (cs' : Slots) (hs : SubS cs' cs) (h : G P X ops Q rest μ l (y0 :: .inl ⟨b, t, sz, cs'⟩ :: L)) : G P X ops Q rest μ l (y0 :: .inl ⟨b, t, sz, cs⟩ :: L) := fun a w hst => h a w (hst.cells (i := 1) rfl hs rfl)
theorem gc_cells_1 {c : Code} {b t sz : Nat} {cs : Slots} {y0 : Bk} {L : List Bk} (cs' : Slots) (hs : SubS cs' cs) (h : GC P X c Q μ l (y0 :: .inl ⟨b, t, sz, cs'⟩ :: L)) : GC P X c Q μ l (y0 :: .inl ⟨b, t, sz, cs⟩ :: L) := fun a w hst => h a w (hst.cells (i := 1) rfl hs rfl)
theorem gq_cells_1 {e : Exit} {b t sz : Nat} {cs : Slots} {y0 : Bk} {L : List Bk} (cs' : Slots) (hs : SubS cs' cs) (h : GQ X Q e μ l (y0 :: .inl ⟨b, t, sz, cs'⟩ :: L)) : GQ X Q e μ l (y0 :: .inl ⟨b, t, sz, cs⟩ :: L) := fun a w hst => h a w (hst.cells (i := 1) rfl hs rfl)
theorem g_cells_2 {b t sz : Nat} {cs : Slots} {y0 y1 : Bk} {L : List Bk} (cs' : Slots) (hs : SubS cs' cs) (h : G P X ops Q rest μ l (y0 :: y1 :: .inl ⟨b, t, sz, cs'⟩ :: L)) : G P X ops Q rest μ l (y0 :: y1 :: .inl ⟨b, t, sz, cs⟩ :: L) := fun a w hst => h a w (hst.cells (i := 2) rfl hs rfl)
theorem gc_cells_2 {c : Code} {b t sz : Nat} {cs : Slots} {y0 y1 : Bk} {L : List Bk} (cs' : Slots) (hs : SubS cs' cs) (h : GC P X c Q μ l (y0 :: y1 :: .inl ⟨b, t, sz, cs'⟩ :: L)) : GC P X c Q μ l (y0 :: y1 :: .inl ⟨b, t, sz, cs⟩ :: L) := fun a w hst => h a w (hst.cells (i := 2) rfl hs rfl)
theorem gq_cells_2 {e : Exit} {b t sz : Nat} {cs : Slots} {y0 y1 : Bk} {L : List Bk} (cs' : Slots) (hs : SubS cs' cs) (h : GQ X Q e μ l (y0 :: y1 :: .inl ⟨b, t, sz, cs'⟩ :: L)) : GQ X Q e μ l (y0 :: y1 :: .inl ⟨b, t, sz, cs⟩ :: L) := fun a w hst => h a w (hst.cells (i := 2) rfl hs rfl)
theorem g_cells_3 {b t sz : Nat} {cs : Slots} {y0 y1 y2 : Bk} {L : List Bk} (cs' : Slots) (hs : SubS cs' cs) (h : G P X ops Q rest μ l (y0 :: y1 :: y2 :: .inl ⟨b, t, sz, cs'⟩ :: L)) : G P X ops Q rest μ l (y0 :: y1 :: y2 :: .inl ⟨b, t, sz, cs⟩ :: L) := fun a w hst => h a w (hst.cells (i := 3) rfl hs rfl)
theorem gc_cells_3 {c : Code} {b t sz : Nat} {cs : Slots} {y0 y1 y2 : Bk} {L : List Bk} (cs' : Slots) (hs : SubS cs' cs) (h : GC P X c Q μ l (y0 :: y1 :: y2 :: .inl ⟨b, t, sz, cs'⟩ :: L)) : GC P X c Q μ l (y0 :: y1 :: y2 :: .inl ⟨b, t, sz, cs⟩ :: L) := fun a w hst => h a w (hst.cells (i := 3) rfl hs rfl)
theorem gq_cells_3 {e : Exit} {b t sz : Nat} {cs : Slots} {y0 y1 y2 : Bk} {L : List Bk} (cs' : Slots) (hs : SubS cs' cs) (h : GQ X Q e μ l (y0 :: y1 :: y2 :: .inl ⟨b, t, sz, cs'⟩ :: L)) : GQ X Q e μ l (y0 :: y1 :: y2 :: .inl ⟨b, t, sz, cs⟩ :: L) := fun a w hst => h a w (hst.cells (i := 3) rfl hs rfl)
theorem g_cells_4 {b t sz : Nat} {cs : Slots} {y0 y1 y2 y3 : Bk} {L : List Bk} (cs' : Slots) (hs : SubS cs' cs) (h : G P X ops Q rest μ l (y0 :: y1 :: y2 :: y3 :: .inl ⟨b, t, sz, cs'⟩ :: L)) : G P X ops Q rest μ l (y0 :: y1 :: y2 :: y3 :: .inl ⟨b, t, sz, cs⟩ :: L) := fun a w hst => h a w (hst.cells (i := 4) rfl hs rfl)
theorem gc_cells_4 {c : Code} {b t sz : Nat} {cs : Slots} {y0 y1 y2 y3 : Bk} {L : List Bk} (cs' : Slots) (hs : SubS cs' cs) (h : GC P X c Q μ l (y0 :: y1 :: y2 :: y3 :: .inl ⟨b, t, sz, cs'⟩ :: L)) : GC P X c Q μ l (y0 :: y1 :: y2 :: y3 :: .inl ⟨b, t, sz, cs⟩ :: L) := fun a w hst => h a w (hst.cells (i := 4) rfl hs rfl)
theorem gq_cells_4 {e : Exit} {b t sz : Nat} {cs : Slots} {y0 y1 y2 y3 : Bk} {L : List Bk} (cs' : Slots) (hs : SubS cs' cs) (h : GQ X Q e μ l (y0 :: y1 :: y2 :: y3 :: .inl ⟨b, t, sz, cs'⟩ :: L)) : GQ X Q e μ l (y0 :: y1 :: y2 :: y3 :: .inl ⟨b, t, sz, cs⟩ :: L) := fun a w hst => h a w (hst.cells (i := 4) rfl hs rfl)
theorem g_cells_5 {b t sz : Nat} {cs : Slots} {y0 y1 y2 y3 y4 : Bk} {L : List Bk} (cs' : Slots) (hs : SubS cs' cs) (h : G P X ops Q rest μ l (y0 :: y1 :: y2 :: y3 :: y4 :: .inl ⟨b, t, sz, cs'⟩ :: L)) : G P X ops Q rest μ l (y0 :: y1 :: y2 :: y3 :: y4 :: .inl ⟨b, t, sz, cs⟩ :: L) := fun a w hst => h a w (hst.cells (i := 5) rfl hs rfl)
theorem gc_cells_5 {c : Code} {b t sz : Nat} {cs : Slots} {y0 y1 y2 y3 y4 : Bk} {L : List Bk} (cs' : Slots) (hs : SubS cs' cs) (h : GC P X c Q μ l (y0 :: y1 :: y2 :: y3 :: y4 :: .inl ⟨b, t, sz, cs'⟩ :: L)) : GC P X c Q μ l (y0 :: y1 :: y2 :: y3 :: y4 :: .inl ⟨b, t, sz, cs⟩ :: L) := fun a w hst => h a w (hst.cells (i := 5) rfl hs rfl)
theorem gq_cells_5 {e : Exit} {b t sz : Nat} {cs : Slots} {y0 y1 y2 y3 y4 : Bk} {L : List Bk} (cs' : Slots) (hs : SubS cs' cs) (h : GQ X Q e μ l (y0 :: y1 :: y2 :: y3 :: y4 :: .inl ⟨b, t, sz, cs'⟩ :: L)) : GQ X Q e μ l (y0 :: y1 :: y2 :: y3 :: y4 :: .inl ⟨b, t, sz, cs⟩ :: L) := fun a w hst => h a w (hst.cells (i := 5) rfl hs rfl)
end
end Go.Vcg
