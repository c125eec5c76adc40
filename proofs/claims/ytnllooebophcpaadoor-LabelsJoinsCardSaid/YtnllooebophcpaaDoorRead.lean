/- From the row's reading of an argument to the words of the walk. No statement of the seat is proved here. -/
import Derived.Test.YtnllooebophcpaaDoorVe
import Derived.ProofKit
import Derived.OpenShut
import Derived.ShutString
import Derived.ChangeOld
import Derived.Deep.Slices
import Derived.Deep.Fields
set_option maxRecDepth 20000
namespace Go.Vcg
open Go.ChangeShapes Go.WideShapes Go.ChangeAt Go.RowKit Go.Deep

/-- All that is there when the call begins. -/
def memOf (w : World) : Mem := fun b => w.heap[b]?
theorem memOf_ok (w : World) : MOk (memOf w) w := fun _ _ h => h
theorem MCell.of_cell {w : World} {A : Addr} {v : Value} (h : w.cell? A = some v) : MCell (memOf w) A v := by
  unfold World.cell? at h
  split at h
  · rename_i c t f hh
    by_cases hs : A.spot.isSome
    · simp [hs] at h
    · simp [hs] at h
      exact ⟨c, t, f, hh, by simpa using hs, h⟩
  · cases h

theorem exists_list {α : Type} {R : Nat → α → Prop} : ∀ (n : Nat), (∀ i, i < n → ∃ x, R i x) → ∃ l : List α, l.length = n ∧ ∀ i x, l[i]? = some x → R i x
  | 0, _ => ⟨[], rfl, fun i x h => by simp at h⟩
  | n + 1, h => by
    obtain ⟨l, hl, hr⟩ := exists_list n (fun i hi => h i (by omega))
    obtain ⟨x, hx⟩ := h n (by omega)
    refine ⟨l ++ [x], by simp [hl], fun i y hy => ?_⟩
    by_cases hi : i < n
    · rw [List.getElem?_append_left (by omega)] at hy
      exact hr i y hy
    · rw [List.getElem?_append_right (by omega)] at hy
      have : i - l.length = 0 := by
        have := (List.getElem?_eq_some_iff.1 hy).1
        simp at this; omega
      rw [this] at hy
      simp at hy
      subst hy
      have : i = n := by omega
      subst this; exact hx

section
variable {H : Type} {enc : TypeId × Value → H} {P : Program} {W : World} {base : Nat} {spare : Nat → Bool} {held : Bool}

theorem field_at' {t : TypeId} {fs : Array Field} {cs : List Value} {xs : List (DataW H × List MemPlace)} {n : Nat} (hone : oneCellFields P fs = true) (hlen : cs.length = fs.size) (hxl : xs.length = fs.size)
    (hf : ∀ (i : Nat) (f : Field), fs[i]? = some f → DataW.trod enc P W base spare held n f.type ((cs.drop f.offset).take (P.cellsOf f.type)) = xs[i]?) (i : Nat) (f : Field) (hi : fs[i]? = some f) :
    ∃ c y, cs[i]? = some c ∧ DataW.trod enc P W base spare held n f.type [c] = some y ∧ xs[i]? = some y := by
  have hlt : i < fs.size := (Array.getElem?_eq_some_iff.1 hi).1
  obtain ⟨ho, hc⟩ := hone_of hone i f hi
  have h := hf i f hi
  rw [ho, hc] at h
  have hi1 : i < cs.length := by omega
  have hi2 : i < xs.length := by omega
  refine ⟨cs[i], xs[i], List.getElem?_eq_getElem hi1, ?_, List.getElem?_eq_getElem hi2⟩
  rw [List.drop_eq_getElem_cons hi1] at h
  rw [← List.getElem?_eq_getElem hi2, ← h]
  rfl

end
end Go.Vcg
