/- Rules for '==' and '!=' of structs that hold a struct. (and what leans on it). No statement of the seat is proved here. -/
import Derived.Test.YtmihpkdhfomcgaaGreatDoorVe
import Derived.Test.YtmihpkdhfomcgaaGreatDoorMr
import Derived.Test.YtmihpkdhfomcgaaGreatDoorSt
set_option maxRecDepth 20000
set_option maxHeartbeats 2000000
namespace Go.Vcg
open Go.RowKit
section
variable {P : Program} {μ : Mem} {l : Slots} {L : List Bk} {w : World} {ds : Option Nat} {ty : TypeId} {pos : String} {af : Array Edge} {gd : Option (Nat × Bool)}
def isStr (P : Program) (t : TypeId) : Bool := match P.underlying t with
  | some (.struct _) => true
  | _ => false
def fieldsOk1 (P : Program) : Nat → List Field → List Nat → Bool
  | _, [], [] => true
  | _, [], _ :: _ => false
  | k, f :: fs, cs => !(f.name == "_") && Nat.beq f.offset k && (match isStr P f.type with
    | true => (match sizeT P f.type with
      | some n => Nat.ble n cs.length && fieldsOk P 0 (P.fieldsOf f.type).toList (cs.take n) && !(P.stoodInHeld f.type) && fieldsOk1 P (k + n) fs (cs.drop n)
      | none => false)
    | false => (match cs with
      | c :: cs => Nat.beq (fcode P f) c && fieldsOk1 P (k + 1) fs cs
      | [] => false))
theorem okVs_split : ∀ (n : Nat) {xs ys : List Value}, okVs xs ys = true → okVs (xs.take n) (ys.take n) = true ∧ okVs (xs.drop n) (ys.drop n) = true
  | 0, xs, ys, h => ⟨by simp [okVs], by simpa using h⟩
  | n + 1, [], [], h => by simp [okVs]
  | n + 1, [], y :: ys, h => by simp [okVs] at h
  | n + 1, x :: xs, [], h => by simp [okVs] at h
  | n + 1, x :: xs, y :: ys, h => by
    simp only [okVs, Bool.and_eq_true] at h
    have ih := okVs_split n h.2
    simp [okVs, h.1, ih]
theorem eqVs_split : ∀ (n : Nat) {xs ys : List Value}, okVs xs ys = true → eqVs xs ys = (eqVs (xs.take n) (ys.take n) && eqVs (xs.drop n) (ys.drop n))
  | 0, xs, ys, h => by simp [eqVs]
  | n + 1, [], [], h => by simp [eqVs]
  | n + 1, [], y :: ys, h => by simp [okVs] at h
  | n + 1, x :: xs, [], h => by simp [okVs] at h
  | n + 1, x :: xs, y :: ys, h => by
    simp only [okVs, Bool.and_eq_true] at h
    have ih := eqVs_split n h.2
    simp [eqVs, ih, Bool.and_assoc]
theorem okVs_len : ∀ {xs ys : List Value}, okVs xs ys = true → xs.length = ys.length
  | [], [], _ => rfl
  | [], y :: ys, h => by simp [okVs] at h
  | x :: xs, [], h => by simp [okVs] at h
  | x :: xs, y :: ys, h => by
    simp only [okVs, Bool.and_eq_true] at h
    simp [okVs_len h.2]
theorem fields_struct {t : TypeId} (h : isStr P t = true) : P.underlying t = some (.struct (P.fieldsOf t)) := by
  unfold isStr at h
  unfold Program.fieldsOf
  cases hu : P.underlying t with
  | none => rw [hu] at h; cases h
  | some d => rw [hu] at h; cases d <;> first | rfl | cases h
theorem extract_take {XS : Array Value} {xs : List Value} {k n : Nat} (h : ∀ j v, xs[j]? = some v → XS[k + j]? = some v) (hn : n ≤ xs.length) : XS.extract k (k + n) = (xs.take n).toArray := by
  rcases Nat.eq_zero_or_pos n with rfl | hp
  · simp
    omega
  have hlen : k + n ≤ XS.size := by
    have h1 := h (n - 1) _ (List.getElem?_eq_getElem (by omega))
    have := (Array.getElem?_eq_some_iff.1 h1).1
    omega
  apply Array.ext_getElem?
  intro j
  by_cases hj : j < n
  · rw [Array.getElem?_extract]
    have h1 := h j _ (List.getElem?_eq_getElem (by omega))
    rw [if_pos (by omega), h1]
    simp [List.getElem?_take, hj]
  · rw [Array.getElem?_eq_none (by simp; omega), Array.getElem?_eq_none (by simp; omega)]
theorem drop_at {xs : List Value} {XS : Array Value} {k n : Nat} (h : ∀ j v, xs[j]? = some v → XS[k + j]? = some v) : ∀ j v, (xs.drop n)[j]? = some v → XS[k + n + j]? = some v := fun j v hj => by
  rw [List.getElem?_drop] at hj
  rw [show k + n + j = k + (n + j) by omega]
  exact h _ _ hj
theorem run_eqFields1 (d : Nat) (XS YS : Array Value) : ∀ (fs : List Field) (k : Nat) (xs ys : List Value), fieldsOk1 P k fs (xs.map codeOf) = true → okVs xs ys = true → (∀ j v, xs[j]? = some v → XS[k + j]? = some v) → (∀ j v, ys[j]? = some v → YS[k + j]? = some v) →
    (Op.eqFields (d + 2) XS YS fs).run P w = .ok (eqVs xs ys) w
  | [], k, [], [], _, _, _, _ => by simp [Op.eqFields, eqVs]
  | [], k, [], y :: ys, _, h, _, _ => by simp [okVs] at h
  | [], k, x :: xs, ys, h, _, _, _ => by simp [fieldsOk1] at h
  | f :: fs, k, xs, ys, h1, h2, hX, hY => by
    simp only [fieldsOk1, Bool.and_eq_true, Bool.not_eq_true'] at h1
    obtain ⟨⟨hn, ho⟩, hr⟩ := h1
    have hoff : f.offset = k := Nat.eq_of_beq_eq_true ho
    have hname : f.name ≠ "_" := by simpa using hn
    cases hst : isStr P f.type with
    | true =>
      rw [hst] at hr
      have hu := fields_struct hst
      have hag : aggOf P f.type = some true := by unfold aggOf; rw [hu]
      cases hsz : sizeT P f.type with
      | none => rw [hsz] at hr; cases hr
      | some n =>
        rw [hsz] at hr
        simp only [Bool.and_eq_true, Bool.not_eq_true', ← List.map_take, ← List.map_drop] at hr
        obtain ⟨⟨⟨hle, hf1⟩, hsi⟩, hf2⟩ := hr
        have hle' : n ≤ xs.length := by have := Nat.le_of_ble_eq_true hle; simpa using this
        have hle2 : n ≤ ys.length := by rw [← okVs_len h2]; exact hle'
        obtain ⟨o1, o2⟩ := okVs_split n h2
        have p1 : (part f.type XS k).run P w = .ok (.agg (xs.take n).toArray) w := by
          simp [part, run_isAgg hag, run_sizeOf hsz, extract_take hX hle']
        have p2 : (part f.type YS k).run P w = .ok (.agg (ys.take n).toArray) w := by
          simp [part, run_isAgg hag, run_sizeOf hsz, extract_take hY hle2]
        have heq : (Op.equalIn (d + 2) f.type (.agg (xs.take n).toArray) (.agg (ys.take n).toArray)).run P w = .ok (eqVs (xs.take n) (ys.take n)) w := by
          rw [run_equalIn_struct w (d + 1) f.type _ _ hu hsi]
          exact run_eqFieldsL d _ _ _ 0 _ _ hf1 o1 (fun j v hj => by simpa using hj) (fun j v hj => by simpa using hj)
        have ih := run_eqFields1 d XS YS fs (k + n) (xs.drop n) (ys.drop n) hf2 o2 (drop_at hX) (drop_at hY)
        simp only [Op.eqFields, hname, ne_eq, not_false_eq_true, if_true, Sem.run_bind, hoff, p1, p2, Result.andThen_ok, heq]
        rw [eqVs_split n h2]
        cases he : eqVs (xs.take n) (ys.take n)
        · simp
        · simp [ih]
    | false =>
      rw [hst] at hr
      match xs, ys, hr, h2, hX, hY with
      | [], _, hr, _, _, _ => simp at hr
      | x :: xs, [], _, h2, _, _ => simp [okVs] at h2
      | x :: xs, y :: ys, hr, h2, hX, hY =>
        simp only [List.map_cons, Bool.and_eq_true] at hr
        obtain ⟨hc, hr⟩ := hr
        simp only [okVs, Bool.and_eq_true] at h2
        have hcode : fcode P f = codeOf x := Nat.eq_of_beq_eq_true hc
        have hx0 := hX 0 x rfl
        have hy0 := hY 0 y rfl
        simp only [Nat.add_zero] at hx0 hy0
        have hag : aggOf P f.type = some false := by
          unfold fcode at hcode
          unfold aggOf
          cases hu : P.underlying f.type with
          | none => rw [hu] at hcode; cases x <;> simp [codeOf] at hcode
          | some de => rw [hu] at hcode; cases de <;> first | rfl | (cases x <;> simp [codeOf] at hcode)
        have heq : (Op.equalIn (d + 2) f.type x y).run P w = .ok (eqV x y) w := by
          unfold fcode at hcode
          cases x <;> cases y <;> simp [okV] at h2 <;> simp only [codeOf] at hcode <;>
            (cases hu : P.underlying f.type with
             | none => simp [hu] at hcode
             | some de =>
              cases de <;> simp [hu] at hcode
              first
                | (rw [run_equalIn_bool' w (d + 1) _ _ _ hu]; simp [eqV, Bool.beq_eq_decide_eq])
                | (rw [run_equalIn_string w (d + 1) _ _ _ hu, beq_bytes]; rfl)
                | (obtain ⟨rfl, _⟩ := h2; rw [run_equalIn_int w (d + 1) _ _ _ _ _ hu]; rfl))
        have ih := run_eqFields1 d XS YS fs (k + 1) xs ys hr h2.2 (fun j v hj => by rw [show k + 1 + j = k + (j + 1) by omega]; exact hX (j + 1) v (by simpa using hj)) (fun j v hj => by rw [show k + 1 + j = k + (j + 1) by omega]; exact hY (j + 1) v (by simpa using hj))
        simp only [Op.eqFields, hname, ne_eq, not_false_eq_true, if_true, Sem.run_bind, hoff, run_partScalar hag hx0, run_partScalar hag hy0, Result.andThen_ok, heq]
        cases he : eqV x y
        · simp [eqVs, he]
        · simp [eqVs, he, ih]
theorem run_equal_agg1 {t : TypeId} {xs ys : List Value} (hst : P.underlying t = some (.struct (P.fieldsOf t))) (hp : P.stoodInHeld t = false) (hfs : fieldsOk1 P 0 (P.fieldsOf t).toList (xs.map codeOf) = true) (hv : okVs xs ys = true) (w : World) :
    (Op.equalIn 10000 t (.agg xs.toArray) (.agg ys.toArray)).run P w = .ok (eqVs xs ys) w := by
  rw [run_equalIn_struct w 9999 t _ _ hst hp]
  exact run_eqFields1 9997 _ _ _ 0 xs ys hfs hv (fun j v hj => by simpa using hj) (fun j v hj => by simpa using hj)
theorem v_aggneq1 {p q : Operand} {t t2 : TypeId} {xs ys : List Value} (hx0 : ev l p = some (.agg xs.toArray)) (hx1 : ev l q = some (.agg ys.toArray)) (hv : okVs xs ys = true) (hst : P.underlying t = some (.struct (P.fieldsOf t))) (hp : P.stoodInHeld t = false) (hg : P.eqGuardType P.depth t = false)
    (hfs : fieldsOk1 P 0 (P.fieldsOf t).toList (xs.map codeOf) = true) : Val P μ l L ⟨ds, .binOp .neq t p q t2, ty, pos, af, gd⟩ (.bool (!eqVs xs ys)) := fun a w hs => by
  have e0 := hs.eval hx0
  have e1 := hs.eval hx1
  generalize a.eval = ρ at e0 e1
  simp [execOp, e0, e1, run_eqGuard_agg w _ _ _ _ _ _ hg, run_neq_struct, run_equal_agg1 hst hp hfs hv]
end
end Go.Vcg
namespace Go.Proofs.YtmihpkdhfomcgaaGreatDoor
open Go.RowKit Go.Vcg Ou
noncomputable def eqB (a b : OutP) : Bool := @decide (a = b) (Classical.propDecidable _)
theorem eqB_t {a b : OutP} (h : a = b) : eqB a b = true := by unfold eqB; exact @decide_eq_true _ (Classical.propDecidable _) h
theorem eqB_f {a b : OutP} (h : ¬ a = b) : eqB a b = false := by unfold eqB; exact @decide_eq_false _ (Classical.propDecidable _) h
theorem evq {x y : EvP} : eqVs (encE x) (encE y) = true ↔ x = y := by
  obtain ⟨k, ⟨a, b, c⟩, s⟩ := x
  obtain ⟨k', ⟨a', b', c'⟩, s'⟩ := y
  simp [eqVs, eqV, encE, and_assoc]
attribute [local irreducible] G GC GQ GA GAop Calls IntKind.wrap Int.decLt Int.decLe
theorem same_spec (o1 o2 : OutP) (A B A2 B2 : Option Addr) (c d c2 d2 : Nat) (w : World) (μ : Mem) (hμ : MOk μ w) (hA : Sl encStr 1 μ A o1.out.length o1.out) (hB : Sl encE 5 μ B o1.log.length o1.log) (hA2 : Sl encStr 1 μ A2 o2.out.length o2.out) (hB2 : Sl encE 5 μ B2 o2.log.length o2.log)
    (hn1 : o1.out.length ≤ 1000000000) (hn2 : o1.log.length ≤ 1000000000) :
    Calls Tryz.prog 7 #[.agg (encO o1 A B c d).toArray, .agg (encO o2 A2 B2 c2 d2).toArray] w fun en w' => en = .returned (.bool (eqB o1 o2)) ∧ Below w.heap.size w w' := by
  refine call_intro (args := [.agg (encO o1 A B c d).toArray, .agg (encO o2 A2 B2 c2 d2).toArray]) Tryz.func7 rfl Tryz.ntmps7 (by simp) hμ ?_
  by_cases q0 : o1.e = o2.e
  rotate_left
  · rw [eqB_f (fun h => q0 (by rw [h]))]
    repeat' (first | refine KK ?_ | refine NB fun b => ?_ | ((refine KB ?_ ?_ <;> intro hp)) | refine KG ?_ | fail)
    all_goals first | (exfalso; first | omega | contradiction | (exact absurd ‹_› ‹¬ _›)) | (refine ret_s rfl rfl ?_; first | rfl | (congr 1; simp [*]; done) | (simp_all; done))
  by_cases q1 : o1.at_ = o2.at_
  rotate_left
  · rw [eqB_f (fun h => q1 (by rw [h]))]
    repeat' (first | refine KK ?_ | refine NB fun b => ?_ | ((refine KB ?_ ?_ <;> intro hp)) | refine KG ?_ | fail)
    all_goals first | (exfalso; first | omega | contradiction | (exact absurd ‹_› ‹¬ _›)) | (refine ret_s rfl rfl ?_; first | rfl | (congr 1; simp [*]; done) | (simp_all; done))
  by_cases q2 : o1.fin = o2.fin
  rotate_left
  · rw [eqB_f (fun h => q2 (by rw [h]))]
    repeat' (first | refine KK ?_ | refine NB fun b => ?_ | ((refine KB ?_ ?_ <;> intro hp)) | refine KG ?_ | fail)
    all_goals first | (exfalso; first | omega | contradiction | (exact absurd ‹_› ‹¬ _›)) | (refine ret_s rfl rfl ?_; first | rfl | (congr 1; simp [*]; done) | (simp_all; done))
  by_cases q3 : o1.text = o2.text
  rotate_left
  · rw [eqB_f (fun h => q3 (by rw [h]))]
    repeat' (first | refine KK ?_ | refine NB fun b => ?_ | ((refine KB ?_ ?_ <;> intro hp)) | refine KG ?_ | fail)
    all_goals first | (exfalso; first | omega | contradiction | (exact absurd ‹_› ‹¬ _›)) | (refine ret_s rfl rfl ?_; first | rfl | (congr 1; simp [*]; done) | (simp_all; done))
  by_cases q4 : o1.steps = o2.steps
  rotate_left
  · rw [eqB_f (fun h => q4 (by rw [h]))]
    repeat' (first | refine KK ?_ | refine NB fun b => ?_ | ((refine KB ?_ ?_ <;> intro hp)) | refine KG ?_ | fail)
    all_goals first | (exfalso; first | omega | contradiction | (exact absurd ‹_› ‹¬ _›)) | (refine ret_s rfl rfl ?_; first | rfl | (congr 1; simp [*]; done) | (simp_all; done))
  by_cases q5 : o1.made = o2.made
  rotate_left
  · rw [eqB_f (fun h => q5 (by rw [h]))]
    repeat' (first | refine KK ?_ | refine NB fun b => ?_ | ((refine KB ?_ ?_ <;> intro hp)) | refine KG ?_ | fail)
    all_goals first | (exfalso; first | omega | contradiction | (exact absurd ‹_› ‹¬ _›)) | (refine ret_s rfl rfl ?_; first | rfl | (congr 1; simp [*]; done) | (simp_all; done))
  by_cases q6 : o1.out.length = o2.out.length
  rotate_left
  · rw [eqB_f (fun h => q6 (by rw [h]))]
    repeat' (first | refine KK ?_ | refine NB fun b => ?_ | ((refine KB ?_ ?_ <;> intro hp)) | refine KG ?_ | fail)
    all_goals first | (exfalso; first | omega | contradiction | (exact absurd ‹_› ‹¬ _›)) | (refine ret_s rfl rfl ?_; first | rfl | (congr 1; simp [*]; done) | (simp_all; done))
  by_cases q7 : o1.log.length = o2.log.length
  rotate_left
  · rw [eqB_f (fun h => q7 (by rw [h]))]
    repeat' (first | refine KK ?_ | refine NB fun b => ?_ | ((refine KB ?_ ?_ <;> intro hp)) | refine KG ?_ | fail)
    all_goals first | (exfalso; first | omega | contradiction | (exact absurd ‹_› ‹¬ _›)) | (refine ret_s rfl rfl ?_; first | rfl | (congr 1; simp [*]; done) | (simp_all; done))
  repeat' (first | refine KK ?_ | refine NB fun b => ?_ | ((refine KB ?_ ?_ <;> intro hp)) | refine KG ?_ | fail)
  all_goals first | (exfalso; first | omega | contradiction | (exact absurd ‹_› ‹¬ _›)) | skip
  rename_i ba
  obtain ⟨bb, hbb⟩ : ∃ x, x = b := ⟨_, rfl⟩
  rw [← hbb]
  clear hbb
  refine gc_loop (ι := Nat) (fun i => i ≤ o1.out.length ∧ ∀ j, j < i → o1.out[j]? = o2.out[j]?) (fun i => o1.out.length - i) (fun _ => μ) (fun i => [(5, .int .i64 i), (2, .pointer (some ⟨ba, 0, none⟩)), (3, .pointer (some ⟨bb, 0, none⟩))])
    (fun _ => [.inl ⟨bb, 27, 8, idx 0 (encO o2 A2 B2 c2 d2)⟩, .inl ⟨ba, 27, 8, idx 0 (encO o1 A B c d)⟩]) 0 ⟨Nat.zero_le _, fun j h => absurd h (by omega)⟩ (fun a w hs => J5 hs) ?_
  rintro i ⟨hi, hall⟩
  by_cases hlt : i < o1.out.length
  · obtain ⟨ad, x, rfl, hx, hm⟩ := hA.get hlt
    obtain ⟨ad2, y, rfl, hy, hm2⟩ := hA2.get (show i < o2.out.length by omega)
    by_cases hxy : x = y
    · subst hxy
      repeat' (first | refine KK ?_ | refine NB fun b => ?_ | ((refine KB ?_ ?_ <;> intro hp)) | refine KG ?_ | fail)
      all_goals first | (exfalso; first | omega | contradiction | (exact absurd ‹_› ‹¬ _›)) | skip
      refine gc_draw 11 _ (by kernel_rfl) rfl (List.Sublist.cons_cons _ (List.Sublist.cons_cons _ (List.nil_sublist _))) ?_
      all_goals (first | refine D1 0 ?_ | (refine DV (k := 0) (b := by first | exact U1 i | exact U3 (hm.at 0 rfl) | exact U3 (hm2.at 0 rfl)) (c := ?_)) | refine DD 0 ?_ | fail)
      all_goals (first | refine D1 1 ?_ | (refine DV (k := 1) (b := by first | exact U1 i | exact U3 (hm.at 0 rfl) | exact U3 (hm2.at 0 rfl)) (c := ?_)) | (refine D3 1 (DW (b := by first | exact U1 i | exact U3 (hm.at 0 rfl) | exact U3 (hm2.at 0 rfl)) (c := ?_))) | refine DD 1 ?_ | fail)
      all_goals refine DD 2 ?_
      all_goals (first | refine D1 3 ?_ | (refine DV (k := 3) (b := by first | exact U1 i | exact U3 (hm.at 0 rfl) | exact U3 (hm2.at 0 rfl)) (c := ?_)) | refine DD 3 ?_ | fail)
      all_goals (first | refine D1 4 ?_ | (refine DV (k := 4) (b := by first | exact U1 i | exact U3 (hm.at 0 rfl) | exact U3 (hm2.at 0 rfl)) (c := ?_)) | (refine D3 4 (DW (b := by first | exact U1 i | exact U3 (hm.at 0 rfl) | exact U3 (hm2.at 0 rfl)) (c := ?_))) | refine DD 4 ?_ | fail)
      all_goals (first | refine D1 5 ?_ | (refine DV (k := 5) (b := by first | exact U1 i | exact U3 (hm.at 0 rfl) | exact U3 (hm2.at 0 rfl)) (c := ?_)) | refine DD 5 ?_ | fail)
      all_goals (first | refine D1 6 ?_ | (refine DV (k := 6) (b := by first | exact U1 i | exact U3 (hm.at 0 rfl) | exact U3 (hm2.at 0 rfl)) (c := ?_)) | (refine D3 6 (DW (b := by first | exact U1 i | exact U3 (hm.at 0 rfl) | exact U3 (hm2.at 0 rfl)) (c := ?_))) | refine DD 6 ?_ | fail)
      all_goals refine DD 7 ?_
      all_goals (first | refine D1 8 ?_ | (refine DV (k := 8) (b := by first | exact U1 i | exact U3 (hm.at 0 rfl) | exact U3 (hm2.at 0 rfl)) (c := ?_)) | refine DD 8 ?_ | fail)
      all_goals (first | refine D1 9 ?_ | (refine DV (k := 9) (b := by first | exact U1 i | exact U3 (hm.at 0 rfl) | exact U3 (hm2.at 0 rfl)) (c := ?_)) | (refine D3 9 (DW (b := by first | exact U1 i | exact U3 (hm.at 0 rfl) | exact U3 (hm2.at 0 rfl)) (c := ?_))) | refine DD 9 ?_ | fail)
      all_goals (first | refine D1 10 ?_ | (refine DV (k := 10) (b := by first | exact U1 i | exact U3 (hm.at 0 rfl) | exact U3 (hm2.at 0 rfl)) (c := ?_)) | refine DD 10 ?_ | fail)
      all_goals refine D8 ?_
      repeat' (first | refine KK ?_ | refine NB fun b => ?_ | ((refine KB ?_ ?_ <;> intro hp)) | refine KG ?_ | fail)
      all_goals first | (exfalso; first | omega | contradiction | (exact absurd ‹_› ‹¬ _›)) | skip
      exact gq_backS (i + 1) ⟨by omega, fun j hj => by
        rcases Nat.lt_succ_iff_lt_or_eq.1 hj with h | rfl
        · exact hall j h
        · rw [hx, hy]⟩ (by omega) rfl PU PS
    · rw [eqB_f (fun h => hxy (Option.some.inj (by rw [← hx, ← hy, h])))]
      repeat' (first | refine KK ?_ | refine NB fun b => ?_ | ((refine KB ?_ ?_ <;> intro hp)) | refine KG ?_ | fail)
      all_goals first | (exfalso; first | omega | contradiction | (exact absurd ‹_› ‹¬ _›)) | skip
      refine gc_draw 11 _ (by kernel_rfl) rfl (List.Sublist.cons_cons _ (List.Sublist.cons_cons _ (List.nil_sublist _))) ?_
      all_goals (first | refine D1 0 ?_ | (refine DV (k := 0) (b := by first | exact U1 i | exact U3 (hm.at 0 rfl) | exact U3 (hm2.at 0 rfl)) (c := ?_)) | refine DD 0 ?_ | fail)
      all_goals (first | refine D1 1 ?_ | (refine DV (k := 1) (b := by first | exact U1 i | exact U3 (hm.at 0 rfl) | exact U3 (hm2.at 0 rfl)) (c := ?_)) | (refine D3 1 (DW (b := by first | exact U1 i | exact U3 (hm.at 0 rfl) | exact U3 (hm2.at 0 rfl)) (c := ?_))) | refine DD 1 ?_ | fail)
      all_goals refine DD 2 ?_
      all_goals (first | refine D1 3 ?_ | (refine DV (k := 3) (b := by first | exact U1 i | exact U3 (hm.at 0 rfl) | exact U3 (hm2.at 0 rfl)) (c := ?_)) | refine DD 3 ?_ | fail)
      all_goals (first | refine D1 4 ?_ | (refine DV (k := 4) (b := by first | exact U1 i | exact U3 (hm.at 0 rfl) | exact U3 (hm2.at 0 rfl)) (c := ?_)) | (refine D3 4 (DW (b := by first | exact U1 i | exact U3 (hm.at 0 rfl) | exact U3 (hm2.at 0 rfl)) (c := ?_))) | refine DD 4 ?_ | fail)
      all_goals (first | refine D1 5 ?_ | (refine DV (k := 5) (b := by first | exact U1 i | exact U3 (hm.at 0 rfl) | exact U3 (hm2.at 0 rfl)) (c := ?_)) | refine DD 5 ?_ | fail)
      all_goals (first | refine D1 6 ?_ | (refine DV (k := 6) (b := by first | exact U1 i | exact U3 (hm.at 0 rfl) | exact U3 (hm2.at 0 rfl)) (c := ?_)) | (refine D3 6 (DW (b := by first | exact U1 i | exact U3 (hm.at 0 rfl) | exact U3 (hm2.at 0 rfl)) (c := ?_))) | refine DD 6 ?_ | fail)
      all_goals refine DD 7 ?_
      all_goals (first | refine D1 8 ?_ | (refine DV (k := 8) (b := by first | exact U1 i | exact U3 (hm.at 0 rfl) | exact U3 (hm2.at 0 rfl)) (c := ?_)) | refine DD 8 ?_ | fail)
      all_goals (first | refine D1 9 ?_ | (refine DV (k := 9) (b := by first | exact U1 i | exact U3 (hm.at 0 rfl) | exact U3 (hm2.at 0 rfl)) (c := ?_)) | (refine D3 9 (DW (b := by first | exact U1 i | exact U3 (hm.at 0 rfl) | exact U3 (hm2.at 0 rfl)) (c := ?_))) | refine DD 9 ?_ | fail)
      all_goals (first | refine D1 10 ?_ | (refine DV (k := 10) (b := by first | exact U1 i | exact U3 (hm.at 0 rfl) | exact U3 (hm2.at 0 rfl)) (c := ?_)) | refine DD 10 ?_ | fail)
      all_goals refine D8 ?_
      repeat' (first | refine KK ?_ | refine NB fun b => ?_ | ((refine KB ?_ ?_ <;> intro hp)) | refine KG ?_ | fail)
      all_goals first | (exfalso; first | omega | contradiction | (exact absurd ‹_› ‹¬ _›)) | (refine ret_s rfl rfl ?_; first | rfl | (congr 1; simp [*]; done) | (simp_all; done))
  · obtain rfl : i = o1.out.length := by omega
    have hout : o1.out = o2.out := List.ext_getElem? fun j => by
      by_cases h : j < o1.out.length
      · exact hall j h
      · rw [List.getElem?_eq_none (by omega), List.getElem?_eq_none (by omega)]
    clear hall hi hlt
    repeat' (first | refine KK ?_ | refine NB fun b => ?_ | ((refine KB ?_ ?_ <;> intro hp)) | refine KG ?_ | fail)
    all_goals first | (exfalso; first | omega | contradiction | (exact absurd ‹_› ‹¬ _›)) | skip
    refine gc_loop (ι := Nat) (fun i => i ≤ o1.log.length ∧ ∀ j, j < i → o1.log[j]? = o2.log[j]?) (fun i => o1.log.length - i) (fun _ => μ) (fun i => [(6, .int .i64 i), (2, .pointer (some ⟨ba, 0, none⟩)), (3, .pointer (some ⟨bb, 0, none⟩))])
      (fun _ => [.inl ⟨bb, 27, 8, idx 0 (encO o2 A2 B2 c2 d2)⟩, .inl ⟨ba, 27, 8, idx 0 (encO o1 A B c d)⟩]) 0 ⟨Nat.zero_le _, fun j h => absurd h (by omega)⟩ (fun a w hs => J5 hs) ?_
    rintro i ⟨hi, hall⟩
    by_cases hlt : i < o1.log.length
    · obtain ⟨ad, x, rfl, hx, hm⟩ := hB.get hlt
      obtain ⟨ad2, y, rfl, hy, hm2⟩ := hB2.get (show i < o2.log.length by omega)
      by_cases hxy : x = y
      · subst hxy
        repeat' (first | refine KK ?_ | refine NB fun b => ?_ | ((refine KB ?_ ?_ <;> intro hp)) | refine KG ?_ | fail)
        all_goals first | (exfalso; first | omega | contradiction | (exact absurd ‹_› ‹¬ _›)) | skip
        refine gc_draw 11 _ (by kernel_rfl) rfl (List.Sublist.cons_cons _ (List.Sublist.cons_cons _ (List.nil_sublist _))) ?_
        all_goals (first | refine D1 0 ?_ | (refine DV (k := 0) (b := by first | exact U1 i | exact U4 hm | exact U4 hm2 | ((with_reducible apply v_aggneq1); exact rfl; exact rfl; exact rfl; exact rfl; kernel_rfl; kernel_rfl; kernel_rfl)) (c := ?_)) | refine DD 0 ?_ | fail)
        all_goals (first | refine D1 1 ?_ | (refine DV (k := 1) (b := by first | exact U1 i | exact U4 hm | exact U4 hm2 | ((with_reducible apply v_aggneq1); exact rfl; exact rfl; exact rfl; exact rfl; kernel_rfl; kernel_rfl; kernel_rfl)) (c := ?_)) | (refine D3 1 (DW (b := by first | exact U1 i | exact U4 hm | exact U4 hm2 | ((with_reducible apply v_aggneq1); exact rfl; exact rfl; exact rfl; exact rfl; kernel_rfl; kernel_rfl; kernel_rfl)) (c := ?_))) | refine DD 1 ?_ | fail)
        all_goals refine DD 2 ?_
        all_goals (first | refine D1 3 ?_ | (refine DV (k := 3) (b := by first | exact U1 i | exact U4 hm | exact U4 hm2 | ((with_reducible apply v_aggneq1); exact rfl; exact rfl; exact rfl; exact rfl; kernel_rfl; kernel_rfl; kernel_rfl)) (c := ?_)) | refine DD 3 ?_ | fail)
        all_goals (first | refine D1 4 ?_ | (refine DV (k := 4) (b := by first | exact U1 i | exact U4 hm | exact U4 hm2 | ((with_reducible apply v_aggneq1); exact rfl; exact rfl; exact rfl; exact rfl; kernel_rfl; kernel_rfl; kernel_rfl)) (c := ?_)) | (refine D3 4 (DW (b := by first | exact U1 i | exact U4 hm | exact U4 hm2 | ((with_reducible apply v_aggneq1); exact rfl; exact rfl; exact rfl; exact rfl; kernel_rfl; kernel_rfl; kernel_rfl)) (c := ?_))) | refine DD 4 ?_ | fail)
        all_goals (first | refine D1 5 ?_ | (refine DV (k := 5) (b := by first | exact U1 i | exact U4 hm | exact U4 hm2 | ((with_reducible apply v_aggneq1); exact rfl; exact rfl; exact rfl; exact rfl; kernel_rfl; kernel_rfl; kernel_rfl)) (c := ?_)) | refine DD 5 ?_ | fail)
        all_goals (first | refine D1 6 ?_ | (refine DV (k := 6) (b := by first | exact U1 i | exact U4 hm | exact U4 hm2 | ((with_reducible apply v_aggneq1); exact rfl; exact rfl; exact rfl; exact rfl; kernel_rfl; kernel_rfl; kernel_rfl)) (c := ?_)) | (refine D3 6 (DW (b := by first | exact U1 i | exact U4 hm | exact U4 hm2 | ((with_reducible apply v_aggneq1); exact rfl; exact rfl; exact rfl; exact rfl; kernel_rfl; kernel_rfl; kernel_rfl)) (c := ?_))) | refine DD 6 ?_ | fail)
        all_goals refine DD 7 ?_
        all_goals (first | refine D1 8 ?_ | (refine DV (k := 8) (b := by first | exact U1 i | exact U4 hm | exact U4 hm2 | ((with_reducible apply v_aggneq1); exact rfl; exact rfl; exact rfl; exact rfl; kernel_rfl; kernel_rfl; kernel_rfl)) (c := ?_)) | refine DD 8 ?_ | fail)
        all_goals (first | refine D1 9 ?_ | (refine DV (k := 9) (b := by first | exact U1 i | exact U4 hm | exact U4 hm2 | ((with_reducible apply v_aggneq1); exact rfl; exact rfl; exact rfl; exact rfl; kernel_rfl; kernel_rfl; kernel_rfl)) (c := ?_)) | (refine D3 9 (DW (b := by first | exact U1 i | exact U4 hm | exact U4 hm2 | ((with_reducible apply v_aggneq1); exact rfl; exact rfl; exact rfl; exact rfl; kernel_rfl; kernel_rfl; kernel_rfl)) (c := ?_))) | refine DD 9 ?_ | fail)
        all_goals (first | refine D1 10 ?_ | (refine DV (k := 10) (b := by first | exact U1 i | exact U4 hm | exact U4 hm2 | ((with_reducible apply v_aggneq1); exact rfl; exact rfl; exact rfl; exact rfl; kernel_rfl; kernel_rfl; kernel_rfl)) (c := ?_)) | refine DD 10 ?_ | fail)
        all_goals refine D8 ?_
        rw [evq.2 rfl]
        repeat' (first | refine KK ?_ | refine NB fun b => ?_ | ((refine KB ?_ ?_ <;> intro hp)) | refine KG ?_ | fail)
        all_goals first | (exfalso; first | omega | contradiction | (exact absurd ‹_› ‹¬ _›)) | skip
        exact gq_backS (i + 1) ⟨by omega, fun j hj => by
          rcases Nat.lt_succ_iff_lt_or_eq.1 hj with h | rfl
          · exact hall j h
          · rw [hx, hy]⟩ (by omega) rfl PU PS
      · rw [eqB_f (fun h => hxy (Option.some.inj (by rw [← hx, ← hy, h])))]
        have hne : eqVs (encE x) (encE y) = false := by
          cases hc : eqVs (encE x) (encE y) with
          | false => rfl
          | true => exact absurd (evq.1 hc) hxy
        repeat' (first | refine KK ?_ | refine NB fun b => ?_ | ((refine KB ?_ ?_ <;> intro hp)) | refine KG ?_ | fail)
        all_goals first | (exfalso; first | omega | contradiction | (exact absurd ‹_› ‹¬ _›)) | skip
        refine gc_draw 11 _ (by kernel_rfl) rfl (List.Sublist.cons_cons _ (List.Sublist.cons_cons _ (List.nil_sublist _))) ?_
        all_goals (first | refine D1 0 ?_ | (refine DV (k := 0) (b := by first | exact U1 i | exact U4 hm | exact U4 hm2 | ((with_reducible apply v_aggneq1); exact rfl; exact rfl; exact rfl; exact rfl; kernel_rfl; kernel_rfl; kernel_rfl)) (c := ?_)) | refine DD 0 ?_ | fail)
        all_goals (first | refine D1 1 ?_ | (refine DV (k := 1) (b := by first | exact U1 i | exact U4 hm | exact U4 hm2 | ((with_reducible apply v_aggneq1); exact rfl; exact rfl; exact rfl; exact rfl; kernel_rfl; kernel_rfl; kernel_rfl)) (c := ?_)) | (refine D3 1 (DW (b := by first | exact U1 i | exact U4 hm | exact U4 hm2 | ((with_reducible apply v_aggneq1); exact rfl; exact rfl; exact rfl; exact rfl; kernel_rfl; kernel_rfl; kernel_rfl)) (c := ?_))) | refine DD 1 ?_ | fail)
        all_goals refine DD 2 ?_
        all_goals (first | refine D1 3 ?_ | (refine DV (k := 3) (b := by first | exact U1 i | exact U4 hm | exact U4 hm2 | ((with_reducible apply v_aggneq1); exact rfl; exact rfl; exact rfl; exact rfl; kernel_rfl; kernel_rfl; kernel_rfl)) (c := ?_)) | refine DD 3 ?_ | fail)
        all_goals (first | refine D1 4 ?_ | (refine DV (k := 4) (b := by first | exact U1 i | exact U4 hm | exact U4 hm2 | ((with_reducible apply v_aggneq1); exact rfl; exact rfl; exact rfl; exact rfl; kernel_rfl; kernel_rfl; kernel_rfl)) (c := ?_)) | (refine D3 4 (DW (b := by first | exact U1 i | exact U4 hm | exact U4 hm2 | ((with_reducible apply v_aggneq1); exact rfl; exact rfl; exact rfl; exact rfl; kernel_rfl; kernel_rfl; kernel_rfl)) (c := ?_))) | refine DD 4 ?_ | fail)
        all_goals (first | refine D1 5 ?_ | (refine DV (k := 5) (b := by first | exact U1 i | exact U4 hm | exact U4 hm2 | ((with_reducible apply v_aggneq1); exact rfl; exact rfl; exact rfl; exact rfl; kernel_rfl; kernel_rfl; kernel_rfl)) (c := ?_)) | refine DD 5 ?_ | fail)
        all_goals (first | refine D1 6 ?_ | (refine DV (k := 6) (b := by first | exact U1 i | exact U4 hm | exact U4 hm2 | ((with_reducible apply v_aggneq1); exact rfl; exact rfl; exact rfl; exact rfl; kernel_rfl; kernel_rfl; kernel_rfl)) (c := ?_)) | (refine D3 6 (DW (b := by first | exact U1 i | exact U4 hm | exact U4 hm2 | ((with_reducible apply v_aggneq1); exact rfl; exact rfl; exact rfl; exact rfl; kernel_rfl; kernel_rfl; kernel_rfl)) (c := ?_))) | refine DD 6 ?_ | fail)
        all_goals refine DD 7 ?_
        all_goals (first | refine D1 8 ?_ | (refine DV (k := 8) (b := by first | exact U1 i | exact U4 hm | exact U4 hm2 | ((with_reducible apply v_aggneq1); exact rfl; exact rfl; exact rfl; exact rfl; kernel_rfl; kernel_rfl; kernel_rfl)) (c := ?_)) | refine DD 8 ?_ | fail)
        all_goals (first | refine D1 9 ?_ | (refine DV (k := 9) (b := by first | exact U1 i | exact U4 hm | exact U4 hm2 | ((with_reducible apply v_aggneq1); exact rfl; exact rfl; exact rfl; exact rfl; kernel_rfl; kernel_rfl; kernel_rfl)) (c := ?_)) | (refine D3 9 (DW (b := by first | exact U1 i | exact U4 hm | exact U4 hm2 | ((with_reducible apply v_aggneq1); exact rfl; exact rfl; exact rfl; exact rfl; kernel_rfl; kernel_rfl; kernel_rfl)) (c := ?_))) | refine DD 9 ?_ | fail)
        all_goals (first | refine D1 10 ?_ | (refine DV (k := 10) (b := by first | exact U1 i | exact U4 hm | exact U4 hm2 | ((with_reducible apply v_aggneq1); exact rfl; exact rfl; exact rfl; exact rfl; kernel_rfl; kernel_rfl; kernel_rfl)) (c := ?_)) | refine DD 10 ?_ | fail)
        all_goals refine D8 ?_
        rw [hne]
        repeat' (first | refine KK ?_ | refine NB fun b => ?_ | ((refine KB ?_ ?_ <;> intro hp)) | refine KG ?_ | fail)
        all_goals first | (exfalso; first | omega | contradiction | (exact absurd ‹_› ‹¬ _›)) | (refine ret_s rfl rfl ?_; first | rfl | (congr 1; simp [*]; done) | (simp_all; done))
    · obtain rfl : i = o1.log.length := by omega
      have hlog : o1.log = o2.log := List.ext_getElem? fun j => by
        by_cases h : j < o1.log.length
        · exact hall j h
        · rw [List.getElem?_eq_none (by omega), List.getElem?_eq_none (by omega)]
      have hall2 : o1 = o2 := by
        obtain ⟨x0, x1, x2, x3, x4, x5, x6, x7⟩ := o1
        obtain ⟨y0, y1, y2, y3, y4, y5, y6, y7⟩ := o2
        dsimp only at q0 q1 q2 q3 q4 q5 hout hlog
        rw [q0, q1, q2, q3, q4, q5, hout, hlog]
      rw [eqB_t hall2]
      repeat' (first | refine KK ?_ | refine NB fun b => ?_ | ((refine KB ?_ ?_ <;> intro hp)) | refine KG ?_ | fail)
      all_goals first | (exfalso; first | omega | contradiction | (exact absurd ‹_› ‹¬ _›)) | (refine ret_s rfl rfl ?_; first | rfl | (congr 1; simp [*]; done) | (simp_all; done))
end Go.Proofs.YtmihpkdhfomcgaaGreatDoor
