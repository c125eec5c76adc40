/- The == of a struct and itself. No statement of the seat is proved here. -/
import Derived.Test.YtmclpmhgeikmjaaDoorVq
namespace Go.Vcg
open Go.RowKit
theorem eqVs_self : ∀ {xs : List Value}, okVs xs xs = true → eqVs xs xs = true
  | [], _ => rfl
  | x :: xs, h => by
    simp only [okVs, Bool.and_eq_true] at h
    have h1 : eqV x x = true := by cases x <;> simp [okV, eqV] at *
    simp only [eqVs, h1, eqVs_self h.2, Bool.and_self]
section
variable {P : Program} {μ : Mem} {l : Slots} {L : List Bk} {ds : Option Nat} {ty : TypeId} {pos : String} {af : Array Edge} {gd : Option (Nat × Bool)}
theorem v_same {p q : Operand} {t t2 : TypeId} {xs : List Value} (hx0 : ev l p = some (.agg xs.toArray)) (hx1 : ev l q = some (.agg xs.toArray)) (hv : okVs xs xs = true) (hst : P.underlying t = some (.struct (P.fieldsOf t))) (hp : P.stoodInHeld t = false) (hg : P.eqGuardType P.depth t = false)
    (hfs : fieldsOk P 0 (P.fieldsOf t).toList (xs.map codeOf) = true) : Val P μ l L ⟨ds, .binOp .eql t p q t2, ty, pos, af, gd⟩ (.bool true) := by
  have := v_aggeql (μ := μ) (L := L) (ds := ds) (ty := ty) (pos := pos) (af := af) (gd := gd) (t2 := t2) hx0 hx1 hv hst hp hg hfs
  rwa [eqVs_self hv] at this
theorem v_nsame {p q : Operand} {t t2 : TypeId} {xs : List Value} (hx0 : ev l p = some (.agg xs.toArray)) (hx1 : ev l q = some (.agg xs.toArray)) (hv : okVs xs xs = true) (hst : P.underlying t = some (.struct (P.fieldsOf t))) (hp : P.stoodInHeld t = false) (hg : P.eqGuardType P.depth t = false)
    (hfs : fieldsOk P 0 (P.fieldsOf t).toList (xs.map codeOf) = true) : Val P μ l L ⟨ds, .binOp .neq t p q t2, ty, pos, af, gd⟩ (.bool false) := by
  have := v_aggneq (μ := μ) (L := L) (ds := ds) (ty := ty) (pos := pos) (af := af) (gd := gd) (t2 := t2) hx0 hx1 hv hst hp hg hfs
  rwa [eqVs_self hv] at this
end
end Go.Vcg
