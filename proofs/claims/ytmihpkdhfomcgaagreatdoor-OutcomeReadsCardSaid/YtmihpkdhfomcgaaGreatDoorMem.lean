/- Words for data in shared memory: slices whose elements are read as plain data. No statement of the seat is proved here. -/
import Derived.Test.YtmihpkdhfomcgaaGreatDoorVo
set_option maxRecDepth 20000
namespace Go.Vcg
open Go.RowKit

/-- The slice at 'A' with 'n' elements of 'sz' cells each holds the list 'l', an element 'x' as the cells 'enc x'. -/
def Sl {α : Type} (enc : α → List Value) (sz : Nat) (μ : Mem) (A : Option Addr) (n : Nat) (l : List α) : Prop :=
  l.length = n ∧ (0 < n → ∃ ad, A = some ad ∧ ∀ i x, l[i]? = some x → MCells μ (ad.add (i * sz)) (enc x))

theorem MCell.mono {μ μ' : Mem} {A : Addr} {v : Value} (h : MCell μ A v) (hle : MLe μ μ') : MCell μ' A v := by
  obtain ⟨c, t, f, h1, h2, h3⟩ := h
  exact ⟨c, t, f, hle _ _ h1, h2, h3⟩
theorem MCells.mono {μ μ' : Mem} {A : Addr} {vs : List Value} (h : MCells μ A vs) (hle : MLe μ μ') : MCells μ' A vs := fun j v hv => (h j v hv).mono hle
theorem Sl.mono {α : Type} {enc : α → List Value} {sz n : Nat} {μ μ' : Mem} {A : Option Addr} {l : List α} (h : Sl enc sz μ A n l) (hle : MLe μ μ') : Sl enc sz μ' A n l :=
  ⟨h.1, fun hn => by
    obtain ⟨ad, e, hc⟩ := h.2 hn
    exact ⟨ad, e, fun i x hx => (hc i x hx).mono hle⟩⟩
theorem MCells.at {μ : Mem} {A : Addr} {k : Nat} {vs : List Value} (h : MCells μ (A.add k) vs) (j : Nat) {v : Value} (hv : vs[j]? = some v) : MCell μ (A.add (k + j)) v := by
  have := h j v hv
  rwa [add_add'] at this
theorem MCells.nil (μ : Mem) (A : Addr) : MCells μ A [] := fun j v h => by simp at h
theorem Sl.nil {α : Type} (enc : α → List Value) (sz : Nat) (μ : Mem) (A : Option Addr) : Sl enc sz μ A 0 [] := ⟨rfl, fun h => absurd h (by omega)⟩
/-- at an index -/
theorem Sl.get {α : Type} {enc : α → List Value} {sz n : Nat} {μ : Mem} {A : Option Addr} {l : List α} (h : Sl enc sz μ A n l) {k : Nat} (hk : k < n) :
    ∃ ad x, A = some ad ∧ l[k]? = some x ∧ MCells μ (ad.add (k * sz)) (enc x) := by
  obtain ⟨ad, e, hc⟩ := h.2 (by omega)
  have hl : k < l.length := by rw [h.1]; exact hk
  exact ⟨ad, l[k], e, List.getElem?_eq_getElem hl, hc k _ (List.getElem?_eq_getElem hl)⟩

abbrev encStr (s : ByteArray) : List Value := [.string s]

theorem Sees.hd {μc μ : Mem} {x : Bk} {L : List Bk} (h : Sees μc μ (x :: L)) : Bk.sh x μc := h.own x (List.Mem.head _)
/-- a block of the call's own, handed on, as a slice -/
theorem Blk.cells {x : Blk} {μ : Mem} (h : Bk.sh (.inl x) μ) {k : Nat} {vs : List Value} (hv : ∀ j v, vs[j]? = some v → lk x.cs (k + j) = some v) : MCells μ ((⟨x.b, 0, none⟩ : Addr).add k) vs := by
  obtain ⟨arr, h1, _, h2⟩ := h
  intro j v hj
  rw [add_add', add_lit]
  exact ⟨arr, x.t, (0, 0), h1, rfl, by simpa using h2 _ _ (hv j v hj)⟩
theorem Sl.of_own {α : Type} {enc : α → List Value} {sz n : Nat} {μ : Mem} {l : List α} {x : Blk} (h : Bk.sh (.inl x) μ) (hn : l.length = n) (hv : ∀ i y, l[i]? = some y → ∀ j v, (enc y)[j]? = some v → lk x.cs (i * sz + j) = some v) :
    Sl enc sz μ (some ⟨x.b, 0, none⟩) n l := ⟨hn, fun _ => ⟨_, rfl, fun i y hy => Blk.cells h (fun j v hj => hv i y hy j v hj)⟩⟩
end Go.Vcg
