/- More rules: an empty slice literal as a row; slicing of slices. No statement of the seat is proved here. -/
import Derived.Test.YtmihpkdhfomcgaaDoorVe
set_option maxRecDepth 20000
namespace Go.Vcg
open Go.RowKit
section
variable {P : Program} {X : Ctx} {ops : Array Oper} {Q : Exit → Act → World → Prop} {rest : List Oper} {μ μr : Mem} {l : Slots} {L Lr : List Bk} {a : Act} {w : World} {o : Oper} {d fuel i : Nat} {listed : Array Bool}
variable {ty : TypeId} {pos : String} {af : Array Edge} {gd : Option (Nat × Bool)}

theorem St.row0 {b t : Nat} {cs : Slots} (s : Nat) (h : St X μ l (.inl ⟨b, t, 0, cs⟩ :: L) a w) : St X μ l (.inr ⟨.slice (some ⟨b, 0, none⟩) 0 0, t, s, 0, []⟩ :: L) a w := by
  have e : (0 : Nat) = 0 * s := by simp
  rw [e] at h
  have hc : LC cs 0 (0 * s) [] := by rw [← e]; exact lc_nil
  exact h.blkRow hc (by simp)
theorem g_row0 {b t : Nat} {cs : Slots} (s : Nat) (h : G P X ops Q rest μ l (.inr ⟨.slice (some ⟨b, 0, none⟩) 0 0, t, s, 0, []⟩ :: L)) : G P X ops Q rest μ l (.inl ⟨b, t, 0, cs⟩ :: L) := fun a w hs => h a w (hs.row0 s)
theorem ga_row0 {b t : Nat} {cs : Slots} (s : Nat) (h : GA P X μr Lr ops Q fuel listed μ l (.inr ⟨.slice (some ⟨b, 0, none⟩) 0 0, t, s, 0, []⟩ :: L)) : GA P X μr Lr ops Q fuel listed μ l (.inl ⟨b, t, 0, cs⟩ :: L) := fun a w hs => h a w (hs.row0 s)
theorem v_len_rw {p : Operand} {t e e' s n : TypeId} {ds : Option Nat} {v : Value} {xs : List Value} (i : Nat) (ht : P.underlying t = some (.slice e)) (hi : nthB L i = some (.inr ⟨v, e', s, n, xs⟩)) (hp : ev l p = some v) :
    Val P μ l L ⟨ds, .call { callee := .builtin .len, args := #[p], argTypes := #[t] }, ty, pos, af, gd⟩ (.int .i64 n) := v_len_row (r := ⟨v, e', s, n, xs⟩) i ht hi hp
end
end Go.Vcg
