/- The == of a struct and itself. No statement of the seat is proved here. -/
import Derived.Test.YtmihpkdhfomcgaaDoorVq
set_option maxRecDepth 20000
namespace Go.Vcg
open Go.RowKit
theorem eqVs_self : ∀ {xs : List Value}, okVs xs xs = true → eqVs xs xs = true
  | [], _ => rfl
  | x :: xs, h => by
    simp only [okVs, Bool.and_eq_true] at h
    have h1 : eqV x x = true := by cases x <;> simp [okV, eqV] at *
    simp only [eqVs, h1, eqVs_self h.2, Bool.and_self]
section
variable {P : Program} {μ : Mem} {l : Slots} {L : List Bk} {ds : Option Nat} {ty : TypeId} {pos : String} {af : Array Edge} {gd : Option (Nat × Bool)}
theorem v_same {p q : Operand} {t t2 : TypeId} {xs : List Value} (hx0 : ev l p = some (.agg xs.toArray)) (hx1 : ev l q = some (.agg xs.toArray)) (hv : okVs xs xs = true) (hst : P.underlying t = some (.struct (P.fieldsOf t))) (hp : P.stoodInHeld t = false) (hg : P.eqGuardType P.depth t = false)
    (hfs : fieldsOk P 0 (P.fieldsOf t).toList (xs.map codeOf) = true) : Val P μ l L ⟨ds, .binOp .eql t p q t2, ty, pos, af, gd⟩ (.bool true) := by
  have := v_aggeql (μ := μ) (L := L) (ds := ds) (ty := ty) (pos := pos) (af := af) (gd := gd) (t2 := t2) hx0 hx1 hv hst hp hg hfs
  rwa [eqVs_self hv] at this
theorem v_nsame {p q : Operand} {t t2 : TypeId} {xs : List Value} (hx0 : ev l p = some (.agg xs.toArray)) (hx1 : ev l q = some (.agg xs.toArray)) (hv : okVs xs xs = true) (hst : P.underlying t = some (.struct (P.fieldsOf t))) (hp : P.stoodInHeld t = false) (hg : P.eqGuardType P.depth t = false)
    (hfs : fieldsOk P 0 (P.fieldsOf t).toList (xs.map codeOf) = true) : Val P μ l L ⟨ds, .binOp .neq t p q t2, ty, pos, af, gd⟩ (.bool false) := by
  have := v_aggneq (μ := μ) (L := L) (ds := ds) (ty := ty) (pos := pos) (af := af) (gd := gd) (t2 := t2) hx0 hx1 hv hst hp hg hfs
  rwa [eqVs_self hv] at this
end
section
variable {P : Program} {μ : Mem} {l : Slots} {L : List Bk} {ds : Option Nat} {ty : TypeId} {pos : String} {af : Array Edge} {gd : Option (Nat × Bool)}
/-- an element of a slice that lies in a block of the call's own, at an index that is not known -/
theorem v_index_lit {p q : Operand} {t e : TypeId} {b off len cap n : Nat} {i : Int} (k : Nat) (ht : P.underlying t = some (.slice e)) (hs : sizeT P e = some n)
    (hx0 : ev l p = some (.slice (some ⟨b, off, none⟩) len cap)) (hx1 : ev l q = some (.int .i64 i)) (hi : i = (k : Int)) (hk : k < len) : Val P μ l L ⟨ds, .indexAddr t p q, ty, pos, af, gd⟩ (.pointer (some ⟨b, off + k * n, none⟩)) := by
  have := v_index (μ := μ) (L := L) (ds := ds) (ty := ty) (pos := pos) (af := af) (gd := gd) k ht hs hx0 hx1 hi hk
  rwa [add_lit] at this
end
/-! results of any number -/
section
variable {P : Program} {μ : Mem} {l : Slots} {L : List Bk} {a : Act} {w : World}
def RVs (P : Program) (μ : Mem) (l : Slots) (L : List Bk) : List ResultVar → List Value → Prop
  | [], [] => True
  | r :: rs, v :: vs => RV P μ l L r v ∧ RVs P μ l L rs vs
  | _, _ => False
theorem rvs_nil : RVs P μ l L [] [] := trivial
theorem rvs_cons {r : ResultVar} {rs : List ResultVar} {v : Value} {vs : List Value} (h : RV P μ l L r v) (hs : RVs P μ l L rs vs) : RVs P μ l L (r :: rs) (v :: vs) := ⟨h, hs⟩
theorem run_mapM_get (hs : Rd μ l L a w) : ∀ {rs : List ResultVar} {vs : List Value}, RVs P μ l L rs vs → (rs.mapM (ResultVar.get a.tmps)).run P w = .ok vs w
  | [], [], _ => by simp
  | r :: rs, v :: vs, h => by
    have h1 := h.1 a w hs
    have h2 := run_mapM_get hs h.2
    simp [List.mapM_cons, h1, h2]
  | [], _ :: _, h => by cases h
  | _ :: _, [], h => by cases h
theorem resultsN {fn : Func} {rs : List ResultVar} {vs : List Value} (hr : fn.results = rs.toArray) (h : RVs P μ l L rs vs) (hl : Nat.beq vs.length 1 = false) (hs : Rd μ l L a w) : (results fn a.tmps).run P w = .ok (.tuple vs.toArray) w := by
  have h1 := run_mapM_get hs h
  have h2 : ¬ vs.length = 1 := Nat.ne_of_beq_eq_false hl
  have e : results fn a.tmps = (do let vs ← rs.toArray.mapM (ResultVar.get a.tmps); pure (if h : vs.size = 1 then vs[0] else .tuple vs)) := by
    unfold results
    rw [hr]
    refine congrArg (fun f => (rs.toArray.mapM f >>= fun vs => pure (if h : vs.size = 1 then vs[0] else .tuple vs) : Sem Value)) ?_
    funext r
    cases r <;> rfl
  rw [e]
  simp only [List.mapM_toArray]
  simp [h1, h2]
theorem ret_vn {fn : Func} {n : Nat} {rs : List ResultVar} {vs : List Value} {v : Value} {w : World} {μ0 : Mem} (hr : fn.results = rs.toArray) (h : RVs P μ l L rs vs) (hl : Nat.beq vs.length 1 = false) (e : .tuple vs.toArray = v) :
    GQ ⟨w, μ0, [], n⟩ (bodyPost P fn (fun e w' => e = .returned v ∧ Below w.heap.size w w')) .ret μ l L := fun a w' hs =>
  ⟨hs.defers.none (by simp), .tuple vs.toArray, resultsN hr h hl hs.rd, by rw [e], hs.keep.below⟩
end
end Go.Vcg
