/- More rules: what is known of a block's cells, told in other words. No statement of the seat is proved here. -/
import Derived.Test.YtmihpkdhfomcgaaGreatDoorVj
set_option maxRecDepth 20000
namespace Go.Vcg
open Go.RowKit
section
variable {P : Program} {X : Ctx} {ops : Array Oper} {Q : Exit → Act → World → Prop} {rest : List Oper} {μ μr : Mem} {l : Slots} {a : Act} {w : World} {o : Oper} {d fuel i : Nat} {listed : Array Bool}
theorem St.cells {L L' : List Bk} {i : Nat} {b t sz : Nat} {cs cs' : Slots} (h : St X μ l L a w) (hi : nthB L i = some (.inl ⟨b, t, sz, cs⟩)) (hs : SubS cs' cs) (hL : updB L i (.inl ⟨b, t, sz, cs'⟩) = L') : St X μ l L' a w := by
  rw [← hL]
  refine h.upd (w' := w) hi rfl rfl rfl (Nat.le_refl _) (fun _ _ _ => rfl) ?_ (fun b hb => .inl hb)
  obtain ⟨arr, h1, h2, h3⟩ := h.own _ (nthB_mem hi)
  exact ⟨arr, h1, h2, fun k v hk => h3 k v (hs k v hk)⟩

end
end Go.Vcg
