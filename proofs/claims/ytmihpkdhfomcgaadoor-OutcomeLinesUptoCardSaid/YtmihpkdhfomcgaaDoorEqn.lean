/- Rules for '==' and '!=' of structs that hold a struct. No statement of the seat is proved here. -/
import Derived.Test.YtmihpkdhfomcgaaDoorVe
set_option maxRecDepth 20000
namespace Go.Vcg
open Go.RowKit
section
variable {P : Program} {μ : Mem} {l : Slots} {L : List Bk} {w : World} {ds : Option Nat} {ty : TypeId} {pos : String} {af : Array Edge} {gd : Option (Nat × Bool)}
def isStr (P : Program) (t : TypeId) : Bool := match P.underlying t with
  | some (.struct _) => true
  | _ => false
def fieldsOk1 (P : Program) : Nat → List Field → List Nat → Bool
  | _, [], [] => true
  | _, [], _ :: _ => false
  | k, f :: fs, cs => !(f.name == "_") && Nat.beq f.offset k && (match isStr P f.type with
    | true => (match sizeT P f.type with
      | some n => Nat.ble n cs.length && fieldsOk P 0 (P.fieldsOf f.type).toList (cs.take n) && !(P.stoodInHeld f.type) && fieldsOk1 P (k + n) fs (cs.drop n)
      | none => false)
    | false => (match cs with
      | c :: cs => Nat.beq (fcode P f) c && fieldsOk1 P (k + 1) fs cs
      | [] => false))
theorem okVs_split : ∀ (n : Nat) {xs ys : List Value}, okVs xs ys = true → okVs (xs.take n) (ys.take n) = true ∧ okVs (xs.drop n) (ys.drop n) = true
  | 0, xs, ys, h => ⟨by simp [okVs], by simpa using h⟩
  | n + 1, [], [], h => by simp [okVs]
  | n + 1, [], y :: ys, h => by simp [okVs] at h
  | n + 1, x :: xs, [], h => by simp [okVs] at h
  | n + 1, x :: xs, y :: ys, h => by
    simp only [okVs, Bool.and_eq_true] at h
    have ih := okVs_split n h.2
    simp [okVs, h.1, ih]
theorem eqVs_split : ∀ (n : Nat) {xs ys : List Value}, okVs xs ys = true → eqVs xs ys = (eqVs (xs.take n) (ys.take n) && eqVs (xs.drop n) (ys.drop n))
  | 0, xs, ys, h => by simp [eqVs]
  | n + 1, [], [], h => by simp [eqVs]
  | n + 1, [], y :: ys, h => by simp [okVs] at h
  | n + 1, x :: xs, [], h => by simp [okVs] at h
  | n + 1, x :: xs, y :: ys, h => by
    simp only [okVs, Bool.and_eq_true] at h
    have ih := eqVs_split n h.2
    simp [eqVs, ih, Bool.and_assoc]
theorem okVs_len : ∀ {xs ys : List Value}, okVs xs ys = true → xs.length = ys.length
  | [], [], _ => rfl
  | [], y :: ys, h => by simp [okVs] at h
  | x :: xs, [], h => by simp [okVs] at h
  | x :: xs, y :: ys, h => by
    simp only [okVs, Bool.and_eq_true] at h
    simp [okVs_len h.2]
theorem fields_struct {t : TypeId} (h : isStr P t = true) : P.underlying t = some (.struct (P.fieldsOf t)) := by
  unfold isStr at h
  unfold Program.fieldsOf
  cases hu : P.underlying t with
  | none => rw [hu] at h; cases h
  | some d => rw [hu] at h; cases d <;> first | rfl | cases h
theorem extract_take {XS : Array Value} {xs : List Value} {k n : Nat} (h : ∀ j v, xs[j]? = some v → XS[k + j]? = some v) (hn : n ≤ xs.length) : XS.extract k (k + n) = (xs.take n).toArray := by
  rcases Nat.eq_zero_or_pos n with rfl | hp
  · simp
    omega
  have hlen : k + n ≤ XS.size := by
    have h1 := h (n - 1) _ (List.getElem?_eq_getElem (by omega))
    have := (Array.getElem?_eq_some_iff.1 h1).1
    omega
  apply Array.ext_getElem?
  intro j
  by_cases hj : j < n
  · rw [Array.getElem?_extract]
    have h1 := h j _ (List.getElem?_eq_getElem (by omega))
    rw [if_pos (by omega), h1]
    simp [List.getElem?_take, hj]
  · rw [Array.getElem?_eq_none (by simp; omega), Array.getElem?_eq_none (by simp; omega)]
theorem drop_at {xs : List Value} {XS : Array Value} {k n : Nat} (h : ∀ j v, xs[j]? = some v → XS[k + j]? = some v) : ∀ j v, (xs.drop n)[j]? = some v → XS[k + n + j]? = some v := fun j v hj => by
  rw [List.getElem?_drop] at hj
  rw [show k + n + j = k + (n + j) by omega]
  exact h _ _ hj
theorem run_eqFields1 (d : Nat) (XS YS : Array Value) : ∀ (fs : List Field) (k : Nat) (xs ys : List Value), fieldsOk1 P k fs (xs.map codeOf) = true → okVs xs ys = true → (∀ j v, xs[j]? = some v → XS[k + j]? = some v) → (∀ j v, ys[j]? = some v → YS[k + j]? = some v) →
    (Op.eqFields (d + 2) XS YS fs).run P w = .ok (eqVs xs ys) w
  | [], k, [], [], _, _, _, _ => by simp [Op.eqFields, eqVs]
  | [], k, [], y :: ys, _, h, _, _ => by simp [okVs] at h
  | [], k, x :: xs, ys, h, _, _, _ => by simp [fieldsOk1] at h
  | f :: fs, k, xs, ys, h1, h2, hX, hY => by
    simp only [fieldsOk1, Bool.and_eq_true, Bool.not_eq_true'] at h1
    obtain ⟨⟨hn, ho⟩, hr⟩ := h1
    have hoff : f.offset = k := Nat.eq_of_beq_eq_true ho
    have hname : f.name ≠ "_" := by simpa using hn
    cases hst : isStr P f.type with
    | true =>
      rw [hst] at hr
      have hu := fields_struct hst
      have hag : aggOf P f.type = some true := by unfold aggOf; rw [hu]
      cases hsz : sizeT P f.type with
      | none => rw [hsz] at hr; cases hr
      | some n =>
        rw [hsz] at hr
        simp only [Bool.and_eq_true, Bool.not_eq_true', ← List.map_take, ← List.map_drop] at hr
        obtain ⟨⟨⟨hle, hf1⟩, hsi⟩, hf2⟩ := hr
        have hle' : n ≤ xs.length := by have := Nat.le_of_ble_eq_true hle; simpa using this
        have hle2 : n ≤ ys.length := by rw [← okVs_len h2]; exact hle'
        obtain ⟨o1, o2⟩ := okVs_split n h2
        have p1 : (part f.type XS k).run P w = .ok (.agg (xs.take n).toArray) w := by
          simp [part, run_isAgg hag, run_sizeOf hsz, extract_take hX hle']
        have p2 : (part f.type YS k).run P w = .ok (.agg (ys.take n).toArray) w := by
          simp [part, run_isAgg hag, run_sizeOf hsz, extract_take hY hle2]
        have heq : (Op.equalIn (d + 2) f.type (.agg (xs.take n).toArray) (.agg (ys.take n).toArray)).run P w = .ok (eqVs (xs.take n) (ys.take n)) w := by
          rw [run_equalIn_struct w (d + 1) f.type _ _ hu hsi]
          exact run_eqFieldsL d _ _ _ 0 _ _ hf1 o1 (fun j v hj => by simpa using hj) (fun j v hj => by simpa using hj)
        have ih := run_eqFields1 d XS YS fs (k + n) (xs.drop n) (ys.drop n) hf2 o2 (drop_at hX) (drop_at hY)
        simp only [Op.eqFields, hname, ne_eq, not_false_eq_true, if_true, Sem.run_bind, hoff, p1, p2, Result.andThen_ok, heq]
        rw [eqVs_split n h2]
        cases he : eqVs (xs.take n) (ys.take n)
        · simp
        · simp [ih]
    | false =>
      rw [hst] at hr
      match xs, ys, hr, h2, hX, hY with
      | [], _, hr, _, _, _ => simp at hr
      | x :: xs, [], _, h2, _, _ => simp [okVs] at h2
      | x :: xs, y :: ys, hr, h2, hX, hY =>
        simp only [List.map_cons, Bool.and_eq_true] at hr
        obtain ⟨hc, hr⟩ := hr
        simp only [okVs, Bool.and_eq_true] at h2
        have hcode : fcode P f = codeOf x := Nat.eq_of_beq_eq_true hc
        have hx0 := hX 0 x rfl
        have hy0 := hY 0 y rfl
        simp only [Nat.add_zero] at hx0 hy0
        have hag : aggOf P f.type = some false := by
          unfold fcode at hcode
          unfold aggOf
          cases hu : P.underlying f.type with
          | none => rw [hu] at hcode; cases x <;> simp [codeOf] at hcode
          | some de => rw [hu] at hcode; cases de <;> first | rfl | (cases x <;> simp [codeOf] at hcode)
        have heq : (Op.equalIn (d + 2) f.type x y).run P w = .ok (eqV x y) w := by
          unfold fcode at hcode
          cases x <;> cases y <;> simp [okV] at h2 <;> simp only [codeOf] at hcode <;>
            (cases hu : P.underlying f.type with
             | none => simp [hu] at hcode
             | some de =>
              cases de <;> simp [hu] at hcode
              first
                | (rw [run_equalIn_bool' w (d + 1) _ _ _ hu]; simp [eqV, Bool.beq_eq_decide_eq])
                | (rw [run_equalIn_string w (d + 1) _ _ _ hu, beq_bytes]; rfl)
                | (obtain ⟨rfl, _⟩ := h2; rw [run_equalIn_int w (d + 1) _ _ _ _ _ hu]; rfl))
        have ih := run_eqFields1 d XS YS fs (k + 1) xs ys hr h2.2 (fun j v hj => by rw [show k + 1 + j = k + (j + 1) by omega]; exact hX (j + 1) v (by simpa using hj)) (fun j v hj => by rw [show k + 1 + j = k + (j + 1) by omega]; exact hY (j + 1) v (by simpa using hj))
        simp only [Op.eqFields, hname, ne_eq, not_false_eq_true, if_true, Sem.run_bind, hoff, run_partScalar hag hx0, run_partScalar hag hy0, Result.andThen_ok, heq]
        cases he : eqV x y
        · simp [eqVs, he]
        · simp [eqVs, he, ih]
theorem run_equal_agg1 {t : TypeId} {xs ys : List Value} (hst : P.underlying t = some (.struct (P.fieldsOf t))) (hp : P.stoodInHeld t = false) (hfs : fieldsOk1 P 0 (P.fieldsOf t).toList (xs.map codeOf) = true) (hv : okVs xs ys = true) (w : World) :
    (Op.equalIn 10000 t (.agg xs.toArray) (.agg ys.toArray)).run P w = .ok (eqVs xs ys) w := by
  rw [run_equalIn_struct w 9999 t _ _ hst hp]
  exact run_eqFields1 9997 _ _ _ 0 xs ys hfs hv (fun j v hj => by simpa using hj) (fun j v hj => by simpa using hj)
theorem v_aggeql1 {p q : Operand} {t t2 : TypeId} {xs ys : List Value} (hx0 : ev l p = some (.agg xs.toArray)) (hx1 : ev l q = some (.agg ys.toArray)) (hv : okVs xs ys = true) (hst : P.underlying t = some (.struct (P.fieldsOf t))) (hp : P.stoodInHeld t = false) (hg : P.eqGuardType P.depth t = false)
    (hfs : fieldsOk1 P 0 (P.fieldsOf t).toList (xs.map codeOf) = true) : Val P μ l L ⟨ds, .binOp .eql t p q t2, ty, pos, af, gd⟩ (.bool (eqVs xs ys)) := fun a w hs => by
  have e0 := hs.eval hx0
  have e1 := hs.eval hx1
  generalize a.eval = ρ at e0 e1
  simp [execOp, e0, e1, run_eqGuard_agg w _ _ _ _ _ _ hg, run_eql_struct, run_equal_agg1 hst hp hfs hv]
theorem v_aggneq1 {p q : Operand} {t t2 : TypeId} {xs ys : List Value} (hx0 : ev l p = some (.agg xs.toArray)) (hx1 : ev l q = some (.agg ys.toArray)) (hv : okVs xs ys = true) (hst : P.underlying t = some (.struct (P.fieldsOf t))) (hp : P.stoodInHeld t = false) (hg : P.eqGuardType P.depth t = false)
    (hfs : fieldsOk1 P 0 (P.fieldsOf t).toList (xs.map codeOf) = true) : Val P μ l L ⟨ds, .binOp .neq t p q t2, ty, pos, af, gd⟩ (.bool (!eqVs xs ys)) := fun a w hs => by
  have e0 := hs.eval hx0
  have e1 := hs.eval hx1
  generalize a.eval = ρ at e0 e1
  simp [execOp, e0, e1, run_eqGuard_agg w _ _ _ _ _ _ hg, run_neq_struct, run_equal_agg1 hst hp hfs hv]
end
end Go.Vcg
