/- More rules: a slice compared with nil. No statement of the seat is proved here. -/
import Derived.Test.YtmihpkdhfomcgaaDoorVi
set_option maxRecDepth 20000
namespace Go.Vcg
open Go.RowKit
section
variable {P : Program} {X : Ctx} {ops : Array Oper} {Q : Exit → Act → World → Prop} {rest : List Oper} {μ μr : Mem} {l : Slots} {L Lr : List Bk} {a : Act} {w : World} {o : Oper} {d fuel i : Nat} {listed : Array Bool}
variable {ty : TypeId} {pos : String} {af : Array Edge} {gd : Option (Nat × Bool)} {ds : Option Nat}
theorem run_equalIn_nil (w : World) (k : Nat) (t e : TypeId) (A : Option Addr) (n c : Nat) (ht : P.underlying t = some (.slice e)) : (Op.equalIn (k + 1) t (.slice A n c) (.slice none 0 0)).run P w = .ok A.isNone w := by
  unfold Op.equalIn
  cases A <;> simp [run_underlying ht]
theorem v_isnil {p : Operand} {t t2 e : TypeId} {A : Option Addr} {n c : Nat} (ht : P.underlying t = some (.slice e)) (hx : ev l p = some (.slice A n c)) : Val P μ l L ⟨ds, .binOp .eql t p (.const (.slice none 0 0)) t2, ty, pos, af, gd⟩ (.bool A.isNone) := fun a w hs => by
  have e0 := hs.eval hx
  have e1 : a.eval (.const (.slice none 0 0)) = .slice none 0 0 := rfl
  generalize a.eval = ρ at e0 e1
  have h := run_equalIn_nil (P := P) w 9999 t e A n c ht
  simp [execOp, e0, e1, eqGuard, binOp, Op.equal, Op.maxDepth, h]
theorem sl_lit {α : Type} {enc : α → List Value} {sz n : Nat} {μ : Mem} {l : List α} {x : Blk} (h : Bk.sh (.inl x) μ) (hn : l.length = n) (he : ∀ y ∈ l, (enc y).length = sz) (hc : LC x.cs 0 (n * sz) (l.flatMap enc)) : Sl enc sz μ (some ⟨x.b, 0, none⟩) n l := by
  refine Sl.of_own h hn (fun i y hy j v hj => ?_)
  have key : ∀ (xs : List α) (i : Nat) (x : α), (∀ x ∈ xs, (enc x).length = sz) → xs[i]? = some x → ∀ j v, (enc x)[j]? = some v → (xs.flatMap enc)[i * sz + j]? = some v := by
    intro xs
    induction xs with
    | nil => intro i x _ h; simp at h
    | cons y xs ih =>
      intro i x he hi j v hj
      have hy := he y (by simp)
      cases i with
      | zero =>
        simp at hi; subst hi
        simp only [List.flatMap_cons, Nat.zero_mul, Nat.zero_add]
        rw [List.getElem?_append_left (List.getElem?_eq_some_iff.1 hj).1]; exact hj
      | succ i =>
        simp only [List.flatMap_cons]
        rw [List.getElem?_append_right (by rw [hy, Nat.add_mul]; omega), hy, show (i + 1) * sz + j - sz = i * sz + j by rw [Nat.add_mul]; omega]
        exact ih i x (fun z hz => he z (by simp [hz])) (by simpa using hi) j v hj
  simpa using hc.get _ v (key l i y he hy j v hj)

end
end Go.Vcg
