/- More rules: cutting a row in thought; lists of records of one size. No statement of the seat is proved here. -/
import Derived.Test.YtmihpkdhfomcgaaDoorVh
set_option maxRecDepth 20000
namespace Go.Vcg
open Go.RowKit
section
variable {P : Program} {X : Ctx} {ops : Array Oper} {Q : Exit → Act → World → Prop} {rest : List Oper} {μ μr : Mem} {l : Slots} {L Lr : List Bk} {a : Act} {w : World} {o : Oper} {d fuel i : Nat} {listed : Array Bool}

theorem St.cut {A : Option Addr} {n cp e s : Nat} {xs : List Value} (h : St X μ l L a w) {i k : Nat} (hi : nthB L i = some (.inr ⟨.slice A n cp, e, s, n, xs⟩)) (hok : RowOk A n cp s xs) (hk : k ≤ n) :
    St X μ l (updB L i (.inr ⟨.slice A k cp, e, s, k, xs.take (k * s)⟩)) a w := by
  refine h.upd (w' := w) hi rfl rfl rfl (Nat.le_refl _) (fun _ _ _ => rfl) ?_ (fun b hb => .inl (by cases A <;> exact hb))
  have hown : w.ownsRow 0 e s (.slice A n cp) n xs := h.own _ (nthB_mem hi)
  have hkn : k * s ≤ n * s := Nat.mul_le_mul_right s hk
  refine ⟨by simp only [List.length_take, hok.len]; omega, ?_⟩
  rcases hown.2 with ⟨h1, h2⟩ | ⟨g, cap, cur, h1, h3, h4, h5, h6, h7, h8⟩
  · cases h1
    exact .inl ⟨by rw [show k = 0 by omega], by show k = 0; omega⟩
  · cases h1
    refine .inr ⟨g, cp, cur, rfl, h3, h4, Nat.le_trans hk h5, h6, h7, ?_⟩
    show cur.toList.take (k * s) = xs.take (k * s)
    rw [← h8, List.take_take, Nat.min_eq_left hkn]
theorem gc_cut {c : Code} {A : Option Addr} {n cp e s : Nat} {xs : List Value} (i k : Nat) (hi : nthB L i = some (.inr ⟨.slice A n cp, e, s, n, xs⟩)) (hok : RowOk A n cp s xs) (hk : k ≤ n)
    (h : GC P X c Q μ l (updB L i (.inr ⟨.slice A k cp, e, s, k, xs.take (k * s)⟩))) : GC P X c Q μ l L := fun a w hs => h a w (hs.cut hi hok hk)
theorem g_cutAt {A : Option Addr} {n cp e s : Nat} {xs : List Value} (i k : Nat) (hi : nthB L i = some (.inr ⟨.slice A n cp, e, s, n, xs⟩)) (hok : RowOk A n cp s xs) (hk : k ≤ n)
    (h : G P X ops Q rest μ l (updB L i (.inr ⟨.slice A k cp, e, s, k, xs.take (k * s)⟩))) : G P X ops Q rest μ l L := fun a w hs => h a w (hs.cut hi hok hk)
theorem gq_cut {c : Exit} {A : Option Addr} {n cp e s : Nat} {xs : List Value} (i k : Nat) (hi : nthB L i = some (.inr ⟨.slice A n cp, e, s, n, xs⟩)) (hok : RowOk A n cp s xs) (hk : k ≤ n)
    (h : GQ X Q c μ l (updB L i (.inr ⟨.slice A k cp, e, s, k, xs.take (k * s)⟩))) : GQ X Q c μ l L := fun a w hs => h a w (hs.cut hi hok hk)
theorem gq_blkRow {c : Exit} {b t sz : Nat} {cs : Slots} {xs : List Value} (n s : Nat) (hz : sz = n * s) (hc : LC cs 0 sz xs) (hn : n ≤ 1000000) (h : GQ X Q c μ l (.inr ⟨.slice (some ⟨b, 0, none⟩) n n, t, s, n, xs⟩ :: L)) : GQ X Q c μ l (.inl ⟨b, t, sz, cs⟩ :: L) := fun a w hs => by
  subst hz
  exact h a w (hs.blkRow hc (Nat.le_trans hn (by decide)))
theorem gq_nilRow {c : Exit} (e s : Nat) (h : GQ X Q c μ l (.inr ⟨.slice none 0 0, e, s, 0, []⟩ :: L)) : GQ X Q c μ l L := fun a w hs => h a w (hs.nilRow e s)
end
section flat
variable {α : Type} {enc : α → List Value} {s : Nat}
theorem flat_length (he : ∀ x, (enc x).length = s) (l : List α) : (l.flatMap enc).length = l.length * s := by
  induction l with
  | nil => simp
  | cons x l ih => simp only [List.flatMap_cons, List.length_append, ih, he, List.length_cons, Nat.add_mul]; omega
theorem flat_takes (he : ∀ x, (enc x).length = s) (l : List α) (k : Nat) : (l.flatMap enc).take (k * s) = (l.take k).flatMap enc := by
  by_cases h : k ≤ l.length
  · conv => lhs; rw [← List.take_append_drop k l, List.flatMap_append]
    rw [List.take_append_of_le_length (by rw [flat_length he]; simp [Nat.min_eq_left h]), List.take_of_length_le (by rw [flat_length he]; simp [Nat.min_eq_left h])]
  · rw [List.take_of_length_le (l := l) (by omega), List.take_of_length_le]
    rw [flat_length he]
    exact Nat.mul_le_mul_right s (by omega)
theorem flat_drops (he : ∀ x, (enc x).length = s) (l : List α) (k : Nat) : (l.flatMap enc).drop (k * s) = (l.drop k).flatMap enc := by
  by_cases h : k ≤ l.length
  · conv => lhs; rw [← List.take_append_drop k l, List.flatMap_append]
    have hl : ((l.take k).flatMap enc).length = k * s := by rw [flat_length he]; simp [Nat.min_eq_left h]
    rw [← hl, List.drop_left]
  · rw [List.drop_of_length_le (l := l) (by omega), List.drop_of_length_le]
    · rfl
    · rw [flat_length he]
      exact Nat.mul_le_mul_right s (by omega)
theorem flat_get (he : ∀ x, (enc x).length = s) {l : List α} {k : Nat} {x : α} (h : l[k]? = some x) (j : Nat) (v : Value) (hv : (enc x)[j]? = some v) : (l.flatMap enc)[k * s + j]? = some v := by
  have hj : j < s := by rw [← he x]; exact (List.getElem?_eq_some_iff.1 hv).1
  have h1 := flat_drops he l k
  have h2 : ((l.flatMap enc).drop (k * s))[j]? = some v := by
    rw [h1]
    have hk : k < l.length := (List.getElem?_eq_some_iff.1 h).1
    rw [List.drop_eq_getElem_cons hk, (List.getElem?_eq_some_iff.1 h).2, List.flatMap_cons, List.getElem?_append_left (by rw [he]; exact hj)]
    exact hv
  rw [List.getElem?_drop] at h2
  exact h2
/-- one record is set -/
theorem flat_set (he : ∀ x, (enc x).length = s) (l : List α) (k : Nat) (x : α) (h : k < l.length) : (l.flatMap enc).take (k * s) ++ enc x ++ (l.flatMap enc).drop (k * s + s) = (l.set k x).flatMap enc := by
  rw [flat_takes he, show k * s + s = (k + 1) * s by rw [Nat.add_mul, Nat.one_mul], flat_drops he, List.set_eq_take_append_cons_drop, if_pos h]
  simp
end flat
end Go.Vcg
