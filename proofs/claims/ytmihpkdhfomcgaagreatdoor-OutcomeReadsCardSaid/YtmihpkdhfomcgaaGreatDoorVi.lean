/- More rules: cutting a row in thought; lists of records of one size. No statement of the seat is proved here. -/
import Derived.Test.YtmihpkdhfomcgaaGreatDoorVh
set_option maxRecDepth 20000
namespace Go.Vcg
open Go.RowKit
section
variable {P : Program} {X : Ctx} {ops : Array Oper} {Q : Exit → Act → World → Prop} {rest : List Oper} {μ μr : Mem} {l : Slots} {L Lr : List Bk} {a : Act} {w : World} {o : Oper} {d fuel i : Nat} {listed : Array Bool}

theorem St.cut {A : Option Addr} {n cp e s : Nat} {xs : List Value} (h : St X μ l L a w) {i k : Nat} (hi : nthB L i = some (.inr ⟨.slice A n cp, e, s, n, xs⟩)) (hok : RowOk A n cp s xs) (hk : k ≤ n) :
    St X μ l (updB L i (.inr ⟨.slice A k cp, e, s, k, xs.take (k * s)⟩)) a w := by
  refine h.upd (w' := w) hi rfl rfl rfl (Nat.le_refl _) (fun _ _ _ => rfl) ?_ (fun b hb => .inl (by cases A <;> exact hb))
  have hown : w.ownsRow 0 e s (.slice A n cp) n xs := h.own _ (nthB_mem hi)
  have hkn : k * s ≤ n * s := Nat.mul_le_mul_right s hk
  refine ⟨by simp only [List.length_take, hok.len]; omega, ?_⟩
  rcases hown.2 with ⟨h1, h2⟩ | ⟨g, cap, cur, h1, h3, h4, h5, h6, h7, h8⟩
  · cases h1
    exact .inl ⟨by rw [show k = 0 by omega], by show k = 0; omega⟩
  · cases h1
    refine .inr ⟨g, cp, cur, rfl, h3, h4, Nat.le_trans hk h5, h6, h7, ?_⟩
    show cur.toList.take (k * s) = xs.take (k * s)
    rw [← h8, List.take_take, Nat.min_eq_left hkn]
theorem gq_blkRow {c : Exit} {b t sz : Nat} {cs : Slots} {xs : List Value} (n s : Nat) (hz : sz = n * s) (hc : LC cs 0 sz xs) (hn : n ≤ 1000000) (h : GQ X Q c μ l (.inr ⟨.slice (some ⟨b, 0, none⟩) n n, t, s, n, xs⟩ :: L)) : GQ X Q c μ l (.inl ⟨b, t, sz, cs⟩ :: L) := fun a w hs => by
  subst hz
  exact h a w (hs.blkRow hc (Nat.le_trans hn (by decide)))
end
section flat
variable {α : Type} {enc : α → List Value} {s : Nat}
end flat
end Go.Vcg
