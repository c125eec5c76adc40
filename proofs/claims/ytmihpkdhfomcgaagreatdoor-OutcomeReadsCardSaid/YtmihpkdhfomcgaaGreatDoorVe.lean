/- Rules for '==' and '!=' of structs whose fields are numbers, bools and strings, over the symbolic state of YtmihpkdhfomcgaaGreatDoorVc. No statement of the seat is proved here. -/
import Derived.Test.YtmihpkdhfomcgaaGreatDoorVa
set_option maxRecDepth 20000
namespace Go.Vcg
open Go.RowKit
section
variable {P : Program} {μ : Mem} {l : Slots} {L : List Bk} {w : World} {ds : Option Nat} {ty : TypeId} {pos : String} {af : Array Edge} {gd : Option (Nat × Bool)}

def codeOf : Value → Nat
  | .string _ => 0
  | .bool _ => 1
  | .int _ _ => 2
  | _ => 3
def fcode (P : Program) (f : Field) : Nat := match P.underlying f.type with
  | some .string => 0
  | some .bool => 1
  | some (.int _) => 2
  | _ => 4
def fieldsOk (P : Program) : Nat → List Field → List Nat → Bool
  | _, [], [] => true
  | k, f :: fs, c :: cs => !(f.name == "_") && Nat.beq f.offset k && Nat.beq (fcode P f) c && fieldsOk P (k + 1) fs cs
  | _, _, _ => false
def okV : Value → Value → Bool
  | .string _, .string _ => true
  | .bool _, .bool _ => true
  | .int k _, .int k' _ => decide (k = k')
  | _, _ => false
def eqV : Value → Value → Bool
  | .string a, .string b => decide (a = b)
  | .bool a, .bool b => decide (a = b)
  | .int _ a, .int _ b => decide (a = b)
  | _, _ => false
def okVs : List Value → List Value → Bool
  | [], [] => true
  | x :: xs, y :: ys => okV x y && okVs xs ys
  | _, _ => false
def eqVs : List Value → List Value → Bool
  | [], [] => true
  | x :: xs, y :: ys => eqV x y && eqVs xs ys
  | _, _ => false

theorem run_partScalar {t : TypeId} {cs : Array Value} {off : Nat} {v : Value} (hag : aggOf P t = some false) (hc : cs[off]? = some v) : (part t cs off).run P w = .ok v w := by
  simp [part, run_isAgg hag, hc]
theorem run_eqFieldsL (d : Nat) (XS YS : Array Value) : ∀ (fs : List Field) (k : Nat) (xs ys : List Value), fieldsOk P k fs (xs.map codeOf) = true → okVs xs ys = true → (∀ j v, xs[j]? = some v → XS[k + j]? = some v) → (∀ j v, ys[j]? = some v → YS[k + j]? = some v) →
    (Op.eqFields (d + 1) XS YS fs).run P w = .ok (eqVs xs ys) w
  | [], k, [], [], _, _, _, _ => by simp [Op.eqFields, eqVs]
  | [], k, [], y :: ys, _, h, _, _ => by simp [okVs] at h
  | [], k, x :: xs, ys, h, _, _, _ => by simp [fieldsOk] at h
  | f :: fs, k, [], ys, h, _, _, _ => by simp [fieldsOk] at h
  | f :: fs, k, x :: xs, [], _, h, _, _ => by simp [okVs] at h
  | f :: fs, k, x :: xs, y :: ys, h1, h2, hX, hY => by
    simp only [List.map_cons, fieldsOk, Bool.and_eq_true, Bool.not_eq_true'] at h1
    obtain ⟨⟨⟨hn, ho⟩, hc⟩, hr⟩ := h1
    simp only [okVs, Bool.and_eq_true] at h2
    have hoff : f.offset = k := Nat.eq_of_beq_eq_true ho
    have hcode : fcode P f = codeOf x := Nat.eq_of_beq_eq_true hc
    have hname : f.name ≠ "_" := by simpa using hn
    have hx0 := hX 0 x rfl
    have hy0 := hY 0 y rfl
    simp only [Nat.add_zero] at hx0 hy0
    have hag : aggOf P f.type = some false := by
      unfold fcode at hcode
      unfold aggOf
      cases hu : P.underlying f.type with
      | none => rw [hu] at hcode; cases x <;> simp [codeOf] at hcode
      | some de => rw [hu] at hcode; cases de <;> first | rfl | (cases x <;> simp [codeOf] at hcode)
    have heq : (Op.equalIn (d + 1) f.type x y).run P w = .ok (eqV x y) w := by
      unfold fcode at hcode
      cases x <;> cases y <;> simp [okV] at h2 <;> simp only [codeOf] at hcode <;>
        (cases hu : P.underlying f.type with
         | none => simp [hu] at hcode
         | some de =>
          cases de <;> simp [hu] at hcode
          first
            | (rw [run_equalIn_bool' w d _ _ _ hu]; simp [eqV, Bool.beq_eq_decide_eq])
            | (rw [run_equalIn_string w d _ _ _ hu, beq_bytes]; rfl)
            | (obtain ⟨rfl, _⟩ := h2; rw [run_equalIn_int w d _ _ _ _ _ hu]; rfl))
    have ih := run_eqFieldsL d XS YS fs (k + 1) xs ys hr h2.2 (fun j v hj => by rw [show k + 1 + j = k + (j + 1) by omega]; exact hX (j + 1) v (by simpa using hj)) (fun j v hj => by rw [show k + 1 + j = k + (j + 1) by omega]; exact hY (j + 1) v (by simpa using hj))
    simp only [Op.eqFields, hname, ne_eq, not_false_eq_true, if_true, Sem.run_bind, hoff, run_partScalar hag hx0, run_partScalar hag hy0, Result.andThen_ok, heq]
    cases he : eqV x y
    · simp [eqVs, he]
    · simp [eqVs, he, ih]

theorem run_equal_agg {t : TypeId} {xs ys : List Value} (hst : P.underlying t = some (.struct (P.fieldsOf t))) (hp : P.stoodInHeld t = false) (hfs : fieldsOk P 0 (P.fieldsOf t).toList (xs.map codeOf) = true) (hv : okVs xs ys = true) (w : World) :
    (Op.equalIn 10000 t (.agg xs.toArray) (.agg ys.toArray)).run P w = .ok (eqVs xs ys) w := by
  rw [run_equalIn_struct w 9999 t _ _ hst hp]
  exact run_eqFieldsL 9998 _ _ _ 0 xs ys hfs hv (fun j v hj => by simpa using hj) (fun j v hj => by simpa using hj)

theorem v_aggeql {p q : Operand} {t t2 : TypeId} {xs ys : List Value} (hx0 : ev l p = some (.agg xs.toArray)) (hx1 : ev l q = some (.agg ys.toArray)) (hv : okVs xs ys = true) (hst : P.underlying t = some (.struct (P.fieldsOf t))) (hp : P.stoodInHeld t = false) (hg : P.eqGuardType P.depth t = false)
    (hfs : fieldsOk P 0 (P.fieldsOf t).toList (xs.map codeOf) = true) : Val P μ l L ⟨ds, .binOp .eql t p q t2, ty, pos, af, gd⟩ (.bool (eqVs xs ys)) := fun a w hs => by
  have e0 := hs.eval hx0
  have e1 := hs.eval hx1
  generalize a.eval = ρ at e0 e1
  simp [execOp, e0, e1, run_eqGuard_agg w _ _ _ _ _ _ hg, run_eql_struct, run_equal_agg hst hp hfs hv]
theorem v_aggneq {p q : Operand} {t t2 : TypeId} {xs ys : List Value} (hx0 : ev l p = some (.agg xs.toArray)) (hx1 : ev l q = some (.agg ys.toArray)) (hv : okVs xs ys = true) (hst : P.underlying t = some (.struct (P.fieldsOf t))) (hp : P.stoodInHeld t = false) (hg : P.eqGuardType P.depth t = false)
    (hfs : fieldsOk P 0 (P.fieldsOf t).toList (xs.map codeOf) = true) : Val P μ l L ⟨ds, .binOp .neq t p q t2, ty, pos, af, gd⟩ (.bool (!eqVs xs ys)) := fun a w hs => by
  have e0 := hs.eval hx0
  have e1 := hs.eval hx1
  generalize a.eval = ρ at e0 e1
  simp [execOp, e0, e1, run_eqGuard_agg w _ _ _ _ _ _ hg, run_neq_struct, run_equal_agg hst hp hfs hv]
theorem v_beql {p q : Operand} {t t2 : TypeId} {x y : Bool} (ht : P.underlying t = some .bool) (hx0 : ev l p = some (.bool x)) (hx1 : ev l q = some (.bool y)) : Val P μ l L ⟨ds, .binOp .eql t p q t2, ty, pos, af, gd⟩ (.bool (decide (x = y))) := fun a w hs => by
  have e0 := hs.eval hx0
  have e1 := hs.eval hx1
  generalize a.eval = ρ at e0 e1
  have h := run_equalIn_bool' (P := P) w 9999 t x y ht
  simp [execOp, e0, e1, eqGuard, binOp, Op.equal, Op.maxDepth, h, Bool.beq_eq_decide_eq]
theorem v_bneq {p q : Operand} {t t2 : TypeId} {x y : Bool} (ht : P.underlying t = some .bool) (hx0 : ev l p = some (.bool x)) (hx1 : ev l q = some (.bool y)) : Val P μ l L ⟨ds, .binOp .neq t p q t2, ty, pos, af, gd⟩ (.bool (decide (x ≠ y))) := fun a w hs => by
  have e0 := hs.eval hx0
  have e1 := hs.eval hx1
  generalize a.eval = ρ at e0 e1
  have h := run_equalIn_bool' (P := P) w 9999 t x y ht
  simp [execOp, e0, e1, eqGuard, binOp, Op.equal, Op.maxDepth, h, Bool.beq_eq_decide_eq]
end
end Go.Vcg
