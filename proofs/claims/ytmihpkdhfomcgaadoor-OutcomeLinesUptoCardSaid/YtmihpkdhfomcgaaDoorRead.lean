/- From the row's reading of an argument to the words of the walk. No statement of the seat is proved here. -/
import Derived.Test.YtmihpkdhfomcgaaDoorVe
import Derived.ProofKit
import Derived.OpenShut
import Derived.ShutString
import Derived.ChangeOld
import Derived.Deep.Slices
import Derived.Deep.Fields
set_option maxRecDepth 20000
namespace Go.Vcg
open Go.ChangeShapes Go.WideShapes Go.ChangeAt Go.RowKit Go.Deep

/-- All that is there when the call begins. -/
def memOf (w : World) : Mem := fun b => w.heap[b]?
theorem memOf_ok (w : World) : MOk (memOf w) w := fun _ _ h => h
theorem MCell.of_cell {w : World} {A : Addr} {v : Value} (h : w.cell? A = some v) : MCell (memOf w) A v := by
  unfold World.cell? at h
  split at h
  · rename_i c t f hh
    by_cases hs : A.spot.isSome
    · simp [hs] at h
    · simp [hs] at h
      exact ⟨c, t, f, hh, by simpa using hs, h⟩
  · cases h

theorem exists_list {α : Type} {R : Nat → α → Prop} : ∀ (n : Nat), (∀ i, i < n → ∃ x, R i x) → ∃ l : List α, l.length = n ∧ ∀ i x, l[i]? = some x → R i x
  | 0, _ => ⟨[], rfl, fun i x h => by simp at h⟩
  | n + 1, h => by
    obtain ⟨l, hl, hr⟩ := exists_list n (fun i hi => h i (by omega))
    obtain ⟨x, hx⟩ := h n (by omega)
    refine ⟨l ++ [x], by simp [hl], fun i y hy => ?_⟩
    by_cases hi : i < n
    · rw [List.getElem?_append_left (by omega)] at hy
      exact hr i y hy
    · rw [List.getElem?_append_right (by omega)] at hy
      have : i - l.length = 0 := by
        have := (List.getElem?_eq_some_iff.1 hy).1
        simp at this; omega
      rw [this] at hy
      simp at hy
      subst hy
      have : i = n := by omega
      subst this; exact hx

section
variable {H : Type} {enc : TypeId × Value → H} {P : Program} {W : World} {base : Nat} {spare : Nat → Bool} {held : Bool}

/-- the cell of a one-cell field, with its reading -/
theorem field_at {t : TypeId} {fs : Array Field} {cs : List Value} {xs : List (DataW H × List MemPlace)} {n : Nat} (hone : oneCellFields P fs = true) (hlen : cs.length = fs.size) (hxl : xs.length = fs.size)
    (hf : ∀ (i : Nat) (f : Field), fs[i]? = some f → DataW.trod enc P W base spare held n f.type ((cs.drop f.offset).take (P.cellsOf f.type)) = xs[i]?) (i : Nat) (f : Field) (hi : fs[i]? = some f) :
    ∃ c y, cs[i]? = some c ∧ DataW.trod enc P W base spare held n f.type [c] = some y := by
  have hlt : i < fs.size := (Array.getElem?_eq_some_iff.1 hi).1
  obtain ⟨ho, hc⟩ := hone_of hone i f hi
  have h := hf i f hi
  rw [ho, hc] at h
  have hi1 : i < cs.length := by omega
  have hi2 : i < xs.length := by omega
  refine ⟨cs[i], xs[i], List.getElem?_eq_getElem hi1, ?_⟩
  rw [List.drop_eq_getElem_cons hi1] at h
  rw [← List.getElem?_eq_getElem hi2, ← h]
  rfl

theorem field_at' {t : TypeId} {fs : Array Field} {cs : List Value} {xs : List (DataW H × List MemPlace)} {n : Nat} (hone : oneCellFields P fs = true) (hlen : cs.length = fs.size) (hxl : xs.length = fs.size)
    (hf : ∀ (i : Nat) (f : Field), fs[i]? = some f → DataW.trod enc P W base spare held n f.type ((cs.drop f.offset).take (P.cellsOf f.type)) = xs[i]?) (i : Nat) (f : Field) (hi : fs[i]? = some f) :
    ∃ c y, cs[i]? = some c ∧ DataW.trod enc P W base spare held n f.type [c] = some y ∧ xs[i]? = some y := by
  have hlt : i < fs.size := (Array.getElem?_eq_some_iff.1 hi).1
  obtain ⟨ho, hc⟩ := hone_of hone i f hi
  have h := hf i f hi
  rw [ho, hc] at h
  have hi1 : i < cs.length := by omega
  have hi2 : i < xs.length := by omega
  refine ⟨cs[i], xs[i], List.getElem?_eq_getElem hi1, ?_, List.getElem?_eq_getElem hi2⟩
  rw [List.drop_eq_getElem_cons hi1] at h
  rw [← List.getElem?_eq_getElem hi2, ← h]
  rfl

/-- A slice that is read: its elements' cells. -/
theorem read_slice {α : Type} {t e s : TypeId} {encv : α → List Value} {v : Value} {d : DataW H} {p : List MemPlace} (ht : P.underlying t = some (.slice e)) (hs : P.cellsOf e = s)
    (hel : ∀ (fuel : Nat) (cs : List Value) (x : DataW H × List MemPlace), DataW.trod enc P W 0 (fun _ => true) true fuel e cs = some x → ∃ y, cs = encv y)
    {r : Reach} {b0 : Nat} (hv : Value.okWide P W r b0 t v) (h : DataW.Trod enc P W 0 (fun _ => true) true t v d p) : ∃ A n c l, v = .slice A n c ∧ Sl encv s (memOf W) A n l ∧ n ≤ maxLen := by
  obtain ⟨A, n, c, rfl⟩ := okWide_slice ht hv
  obtain ⟨fuel, hf⟩ := h
  rcases open_slice ht hf with ⟨hcs, _⟩ | ⟨a, len, cap, m, k, D, Pl, hcs, _, hl, hm, hmm, _, hi⟩
  · simp [Value.cells] at hcs
    obtain ⟨rfl, rfl, rfl⟩ := hcs
    exact ⟨none, 0, 0, [], rfl, Sl.nil _ _ _ _, by simp⟩
  · simp [Value.cells] at hcs
    obtain ⟨rfl, rfl, rfl⟩ := hcs
    simp at hmm
    have hex : ∀ i, i < n → ∃ y, MCells (memOf W) (a.add (i * s)) (encv y) := fun i hin => by
      obtain ⟨cs', hc, ht'⟩ := hi i (by omega)
      obtain ⟨y, rfl⟩ := hel _ _ _ ht'
      refine ⟨y, fun j u hu => ?_⟩
      obtain ⟨_, hcl, hat⟩ := World.cells?_some hc
      rw [hs] at hat hcl
      have hj : j < s := by
        have := (List.getElem?_eq_some_iff.1 hu).1
        omega
      have := hat j hj
      rw [hu] at this
      exact MCell.of_cell this
    obtain ⟨l, hl1, hl2⟩ := exists_list n hex
    exact ⟨some a, n, c, l, rfl, ⟨hl1, fun _ => ⟨a, rfl, hl2⟩⟩, by omega⟩
end
end Go.Vcg
