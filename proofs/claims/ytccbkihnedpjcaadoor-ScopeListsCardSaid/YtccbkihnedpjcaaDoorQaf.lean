/- A machine for closed runs: values whose blocks bear numbers of our own, and what they stand for. -/
import Derived.MapKept
import Derived.Test.YtccbkihnedpjcaaDoorQac
set_option maxRecDepth 20000
namespace Go.Rex
section
open Go.RowKit
open Go.Vcg (Keep)
abbrev Env := Nat → Option (Nat × Nat × Nat)
def capU : Nat := 18446744073709551616
mutual
def rv (ρ : Env) : Value → Option Value
  | .bool b => some (.bool b)
  | .int k n => some (.int k n)
  | .float k n => some (.float k n)
  | .string s => some (.string s)
  | .pointer none => some (.pointer none)
  | .pointer (some ⟨b, o, none⟩) => match ρ b with
    | some (B, _, O) => some (.pointer (some ⟨B, O + o, none⟩))
    | none => none
  | .slice none n c => some (.slice none n c)
  | .slice (some ⟨b, o, none⟩) n c => match ρ b with
    | some (B, C, O) => if c < capU then some (.slice (some ⟨B, O + o, none⟩) n c)
      else if n + (c - capU) ≤ C then some (.slice (some ⟨B, O + o, none⟩) n (C - (c - capU))) else none
    | none => none
  | .map none => some (.map none)
  | .map (some b) => match ρ b with
    | some (B, _, _) => some (.map (some B))
    | none => none
  | .func (.func f) ⟨x⟩ ⟨y⟩ => match rvs ρ x, rvs ρ y with
    | some X, some Y => some (.func (.func f) ⟨X⟩ ⟨Y⟩)
    | _, _ => none
  | .nilFunc => some .nilFunc
  | .iface t v => match rv ρ v with
    | some V => some (.iface t V)
    | none => none
  | .nilIface => some .nilIface
  | .agg ⟨x⟩ => match rvs ρ x with
    | some X => some (.agg ⟨X⟩)
    | none => none
  | .tuple ⟨x⟩ => match rvs ρ x with
    | some X => some (.tuple ⟨X⟩)
    | none => none
  | _ => none
def rvs (ρ : Env) : List Value → Option (List Value)
  | [] => some []
  | v :: r => match rv ρ v, rvs ρ r with
    | some V, some R => some (V :: R)
    | _, _ => none
end
def ELe (ρ ρ' : Env) : Prop := ∀ b x, ρ b = some x → ρ' b = some x
theorem ELe.refl (ρ : Env) : ELe ρ ρ := fun _ _ h => h
theorem ELe.trans {ρ ρ' ρ'' : Env} (h : ELe ρ ρ') (k : ELe ρ' ρ'') : ELe ρ ρ'' := fun b x e => k b x (h b x e)
mutual
theorem rv_mono {ρ ρ' : Env} (h : ELe ρ ρ') : ∀ {v V : Value}, rv ρ v = some V → rv ρ' v = some V
  | .bool _, _, e => by simpa [rv] using e
  | .int _ _, _, e => by simpa [rv] using e
  | .float _ _, _, e => by simpa [rv] using e
  | .complex _ _ _, _, e => by simp [rv] at e
  | .chan _, _, e => by simp [rv] at e
  | .string _, _, e => by simpa [rv] using e
  | .pointer none, _, e => by simpa [rv] using e
  | .pointer (some ⟨_, _, some _⟩), _, e => by simp [rv] at e
  | .pointer (some ⟨b, o, none⟩), V, e => by
    unfold rv at e ⊢
    cases hb : ρ b with
    | none => simp [hb] at e
    | some x => rw [h b x hb]; rw [hb] at e; exact e
  | .slice none _ _, _, e => by simpa [rv] using e
  | .slice (some ⟨_, _, some _⟩) _ _, _, e => by simp [rv] at e
  | .slice (some ⟨b, o, none⟩) n c, V, e => by
    unfold rv at e ⊢
    cases hb : ρ b with
    | none => simp [hb] at e
    | some x => rw [h b x hb]; rw [hb] at e; exact e
  | .map none, _, e => by simpa [rv] using e
  | .map (some b), V, e => by
    unfold rv at e ⊢
    cases hb : ρ b with
    | none => simp [hb] at e
    | some x => rw [h b x hb]; rw [hb] at e; exact e
  | .func (.func f) ⟨x⟩ ⟨y⟩, V, e => by
    unfold rv at e ⊢
    cases hx : rvs ρ x with
    | none => simp [hx] at e
    | some X =>
      cases hy : rvs ρ y with
      | none => simp [hx, hy] at e
      | some Y =>
        rw [rvs_mono h hx, rvs_mono h hy]
        rw [hx, hy] at e
        exact e
  | .func (.method _) _ _, _, e => by simp [rv] at e
  | .func (.methodOf _ _) _ _, _, e => by simp [rv] at e
  | .func (.via _ _ _ _) _ _, _, e => by simp [rv] at e
  | .func (.yield _) _ _, _, e => by simp [rv] at e
  | .nilFunc, _, e => by simpa [rv] using e
  | .iface t v, V, e => by
    unfold rv at e ⊢
    cases hv : rv ρ v with
    | none => simp [hv] at e
    | some x => rw [rv_mono h hv]; rw [hv] at e; exact e
  | .nilIface, _, e => by simpa [rv] using e
  | .agg ⟨x⟩, V, e => by
    unfold rv at e ⊢
    cases hx : rvs ρ x with
    | none => simp [hx] at e
    | some X => rw [rvs_mono h hx]; rw [hx] at e; exact e
  | .tuple ⟨x⟩, V, e => by
    unfold rv at e ⊢
    cases hx : rvs ρ x with
    | none => simp [hx] at e
    | some X => rw [rvs_mono h hx]; rw [hx] at e; exact e
theorem rvs_mono {ρ ρ' : Env} (h : ELe ρ ρ') : ∀ {v V : List Value}, rvs ρ v = some V → rvs ρ' v = some V
  | [], _, e => by simpa [rvs] using e
  | v :: r, V, e => by
    unfold rvs at e ⊢
    cases hv : rv ρ v with
    | none => simp [hv] at e
    | some x =>
      cases hr : rvs ρ r with
      | none => simp [hv, hr] at e
      | some R =>
        rw [rv_mono h hv, rvs_mono h hr]
        rw [hv, hr] at e
        exact e
end
def flat : Value → Bool
  | .bool _ => true
  | .int _ _ => true
  | .float _ _ => true
  | .string _ => true
  | .pointer none => true
  | .slice none _ _ => true
  | .map none => true
  | .nilFunc => true
  | .nilIface => true
  | _ => false
theorem rv_flat {ρ : Env} {v : Value} (h : flat v = true) : rv ρ v = some v := by
  unfold flat at h
  split at h <;> first | simp [rv] | cases h
def flats : List Value → Bool
  | [] => true
  | v :: r => match flat v with
    | true => flats r
    | false => false
theorem rvs_flats {ρ : Env} : ∀ {l : List Value}, flats l = true → rvs ρ l = some l
  | [], _ => by simp [rvs]
  | v :: r, h => by
    unfold flats at h
    split at h
    · rename_i hv
      unfold rvs
      rw [rv_flat hv, rvs_flats h]
    · cases h
def flat2 (v : Value) : Bool := match v with
  | .agg ⟨l⟩ => flats l
  | .tuple ⟨l⟩ => flats l
  | .iface _ v => flat v
  | .func (.func _) ⟨[]⟩ ⟨[]⟩ => true
  | v => flat v
theorem rv_flat2 {ρ : Env} {v : Value} (h : flat2 v = true) : rv ρ v = some v := by
  unfold flat2 at h
  split at h
  · unfold rv; rw [rvs_flats h]
  · unfold rv; rw [rvs_flats h]
  · unfold rv; rw [rv_flat h]
  · simp [rv, rvs]
  · exact rv_flat h
def nth {α : Type} : List α → Nat → Option α
  | [], _ => none
  | x :: r, i => match i with
    | 0 => some x
    | i + 1 => nth r i
theorem nth_eq {α : Type} : ∀ (l : List α) (i : Nat), nth l i = l[i]?
  | [], _ => by simp [nth]
  | x :: r, 0 => by simp [nth]
  | x :: r, i + 1 => by simp [nth, nth_eq r i]
def takeD {α : Type} : Nat → Nat → List α → Option (List α)
  | 0, n, l => takeN n l
  | d + 1, n, l => match l with
    | [] => none
    | _ :: r => takeD d n r
where
  takeN : Nat → List α → Option (List α)
  | 0, _ => some []
  | n + 1, l => match l with
    | [] => none
    | x :: r => match takeN n r with
      | some r' => some (x :: r')
      | none => none
theorem takeN_spec {α : Type} : ∀ {n : Nat} {l xs : List α}, takeD.takeN n l = some xs → xs.length = n ∧ ∀ j, j < n → l[j]? = xs[j]?
  | 0, l, xs, h => by unfold takeD.takeN at h; cases h; simp
  | n + 1, [], xs, h => by unfold takeD.takeN at h; cases h
  | n + 1, x :: r, xs, h => by
    unfold takeD.takeN at h
    simp only at h
    split at h
    · rename_i r' hr
      cases h
      obtain ⟨h1, h2⟩ := takeN_spec hr
      refine ⟨by simp [h1], fun j hj => ?_⟩
      cases j with
      | zero => simp
      | succ j => simpa using h2 j (by omega)
    · cases h
theorem takeD_spec {α : Type} : ∀ {d n : Nat} {l xs : List α}, takeD d n l = some xs → xs.length = n ∧ ∀ j, j < n → l[d + j]? = xs[j]?
  | 0, n, l, xs, h => by unfold takeD at h; simpa using takeN_spec h
  | d + 1, n, [], xs, h => by unfold takeD at h; cases h
  | d + 1, n, x :: r, xs, h => by
    unfold takeD at h
    obtain ⟨h1, h2⟩ := takeD_spec h
    refine ⟨h1, fun j hj => ?_⟩
    have e : d + 1 + j = (d + j) + 1 := by omega
    rw [e]
    simpa using h2 j hj
def layD {α : Type} : Nat → List α → List α → Option (List α)
  | 0, ys, l => layN ys l
  | d + 1, ys, l => match l with
    | [] => none
    | x :: r => match layD d ys r with
      | some r' => some (x :: r')
      | none => none
where
  layN : List α → List α → Option (List α)
  | [], l => some l
  | y :: ys, l => match l with
    | [] => none
    | _ :: r => match layN ys r with
      | some r' => some (y :: r')
      | none => none
theorem layN_spec {α : Type} : ∀ {ys l xs : List α}, layD.layN ys l = some xs → ys.length ≤ l.length ∧ xs = ys ++ l.drop ys.length
  | [], l, xs, h => by unfold layD.layN at h; cases h; simp
  | y :: ys, [], xs, h => by unfold layD.layN at h; cases h
  | y :: ys, x :: r, xs, h => by
    unfold layD.layN at h
    simp only at h
    split at h
    · rename_i r' hr
      cases h
      obtain ⟨h1, h2⟩ := layN_spec hr
      exact ⟨by simpa using h1, by simp [h2]⟩
    · cases h
theorem layD_spec {α : Type} : ∀ {d : Nat} {ys l xs : List α}, layD d ys l = some xs → d + ys.length ≤ l.length ∧ xs = l.take d ++ ys ++ l.drop (d + ys.length)
  | 0, ys, l, xs, h => by unfold layD at h; simpa using layN_spec h
  | d + 1, ys, [], xs, h => by unfold layD at h; cases h
  | d + 1, ys, x :: r, xs, h => by
    unfold layD at h
    simp only at h
    split at h
    · rename_i r' hr
      cases h
      obtain ⟨h1, h2⟩ := layD_spec hr
      have e : d + 1 + ys.length = d + ys.length + 1 := by omega
      refine ⟨by simp; omega, by simp [h2, e]⟩
    · cases h
theorem rvs_length {ρ : Env} : ∀ {l L : List Value}, rvs ρ l = some L → L.length = l.length
  | [], L, h => by simp [rvs] at h; simp [h]
  | v :: r, L, h => by
    unfold rvs at h
    split at h
    · rename_i V R hv hr
      cases h
      simp [rvs_length hr]
    · cases h
theorem rvs_get {ρ : Env} : ∀ {l L : List Value}, rvs ρ l = some L → ∀ (i : Nat) (v : Value), l[i]? = some v → ∃ V, L[i]? = some V ∧ rv ρ v = some V
  | [], L, h, i, v, e => by simp at e
  | u :: r, L, h, i, v, e => by
    unfold rvs at h
    split at h
    · rename_i V R hv hr
      cases h
      cases i with
      | zero => simp at e; subst e; exact ⟨V, by simp, hv⟩
      | succ i => simpa using rvs_get hr i v (by simpa using e)
    · cases h
theorem rvs_of_get {ρ : Env} : ∀ {l L : List Value}, L.length = l.length → (∀ (i : Nat) (v : Value), l[i]? = some v → ∃ V, L[i]? = some V ∧ rv ρ v = some V) → rvs ρ l = some L
  | [], [], _, _ => by simp [rvs]
  | [], _ :: _, h, _ => by simp at h
  | _ :: _, [], h, _ => by simp at h
  | v :: r, V :: R, h, hg => by
    unfold rvs
    obtain ⟨V', h1, h2⟩ := hg 0 v (by simp)
    simp at h1
    subst h1
    have hr : rvs ρ r = some R := rvs_of_get (by simpa using h) fun i u hu => by
      simpa using hg (i + 1) u (by simpa using hu)
    rw [h2, hr]
theorem rvs_append {ρ : Env} : ∀ {l m L M : List Value}, rvs ρ l = some L → rvs ρ m = some M → rvs ρ (l ++ m) = some (L ++ M)
  | [], m, L, M, h, k => by simp [rvs] at h; subst h; simpa using k
  | v :: r, m, L, M, h, k => by
    unfold rvs at h
    split at h
    · rename_i V R hv hr
      cases h
      simp only [List.cons_append]
      unfold rvs
      rw [hv, rvs_append hr k]
    · cases h
theorem rvs_take {ρ : Env} {l L : List Value} (h : rvs ρ l = some L) (n : Nat) : rvs ρ (l.take n) = some (L.take n) :=
  rvs_of_get (by simp [rvs_length h]) fun i v hv => by
    rw [List.getElem?_take] at hv
    split at hv
    · rename_i hi
      obtain ⟨V, h1, h2⟩ := rvs_get h i v hv
      exact ⟨V, by rw [List.getElem?_take, if_pos hi]; exact h1, h2⟩
    · cases hv
theorem rvs_drop {ρ : Env} {l L : List Value} (h : rvs ρ l = some L) (n : Nat) : rvs ρ (l.drop n) = some (L.drop n) :=
  rvs_of_get (by simp [rvs_length h]) fun i v hv => by
    rw [List.getElem?_drop] at hv
    obtain ⟨V, h1, h2⟩ := rvs_get h _ v hv
    exact ⟨V, by rw [List.getElem?_drop]; exact h1, h2⟩
theorem rvs_takeD {ρ : Env} {l L xs : List Value} {d n : Nat} (h : rvs ρ l = some L) (e : takeD d n l = some xs) : ∃ XS, rvs ρ xs = some XS ∧ XS.length = n ∧ ∀ j V, XS[j]? = some V → L[d + j]? = some V := by
  obtain ⟨h1, h2⟩ := takeD_spec e
  have hx : xs = (l.drop d).take n := by
    apply List.ext_getElem?
    intro j
    rw [List.getElem?_take]
    split
    · rename_i hj
      rw [List.getElem?_drop, h2 j hj]
    · rename_i hj
      exact List.getElem?_eq_none (by omega)
  subst hx
  have hr := rvs_take (rvs_drop h d) n
  refine ⟨_, hr, by rw [rvs_length hr, h1], fun j V hV => ?_⟩
  rw [List.getElem?_take] at hV
  split at hV
  · rw [List.getElem?_drop] at hV; exact hV
  · cases hV
theorem rvs_layD {ρ : Env} {l L ys YS xs : List Value} {d : Nat} (h : rvs ρ l = some L) (hy : rvs ρ ys = some YS) (e : layD d ys l = some xs) : d + YS.length ≤ L.length ∧ rvs ρ xs = some (L.take d ++ YS ++ L.drop (d + YS.length)) := by
  obtain ⟨h1, h2⟩ := layD_spec e
  subst h2
  refine ⟨by rw [rvs_length h, rvs_length hy]; exact h1, ?_⟩
  rw [rvs_length hy]
  exact rvs_append (rvs_append (rvs_take h d) hy) (rvs_drop h _)
inductive T (α : Type) where
  | e
  | v (x : α)
  | n (l r : T α)
def tget {α : Type} (d : Nat) : T α → Nat → Option α :=
  Nat.rec (motive := fun _ => T α → Nat → Option α)
    (fun t _ => match t with
      | .v x => some x
      | .e => none
      | .n _ _ => none)
    (fun _ ih t k => match t with
      | .n l r => match Nat.beq (Nat.mod k 2) 0 with
        | true => ih l (Nat.div k 2)
        | false => ih r (Nat.div k 2)
      | .e => none
      | .v _ => none) d
def tset {α : Type} (d : Nat) : T α → Nat → Option α → T α :=
  Nat.rec (motive := fun _ => T α → Nat → Option α → T α)
    (fun _ _ x => match x with
      | some x => .v x
      | none => .e)
    (fun _ ih t k x => match t with
      | .n l r => match Nat.beq (Nat.mod k 2) 0 with
        | true => .n (ih l (Nat.div k 2) x) r
        | false => .n l (ih r (Nat.div k 2) x)
      | .e => match Nat.beq (Nat.mod k 2) 0 with
        | true => .n (ih .e (Nat.div k 2) x) .e
        | false => .n .e (ih .e (Nat.div k 2) x)
      | .v _ => match Nat.beq (Nat.mod k 2) 0 with
        | true => .n (ih .e (Nat.div k 2) x) .e
        | false => .n .e (ih .e (Nat.div k 2) x)) d
theorem tget_succ {α : Type} (d : Nat) (t : T α) (k : Nat) : tget (d + 1) t k = match t with
      | .n l r => match Nat.beq (Nat.mod k 2) 0 with
        | true => tget d l (Nat.div k 2)
        | false => tget d r (Nat.div k 2)
      | .e => none
      | .v _ => none := rfl
theorem tset_succ {α : Type} (d : Nat) (t : T α) (k : Nat) (x : Option α) : tset (d + 1) t k x = match t with
      | .n l r => match Nat.beq (Nat.mod k 2) 0 with
        | true => .n (tset d l (Nat.div k 2) x) r
        | false => .n l (tset d r (Nat.div k 2) x)
      | .e => match Nat.beq (Nat.mod k 2) 0 with
        | true => .n (tset d .e (Nat.div k 2) x) .e
        | false => .n .e (tset d .e (Nat.div k 2) x)
      | .v _ => match Nat.beq (Nat.mod k 2) 0 with
        | true => .n (tset d .e (Nat.div k 2) x) .e
        | false => .n .e (tset d .e (Nat.div k 2) x) := rfl
theorem tget_set_same {α : Type} : ∀ (d : Nat) (t : T α) (k : Nat) (x : Option α), tget d (tset d t k x) k = x
  | 0, t, k, x => by cases x <;> rfl
  | d + 1, t, k, x => by
    rw [tset_succ, tget_succ]
    cases t <;> cases h : Nat.beq (Nat.mod k 2) 0 <;> exact tget_set_same d _ _ x
theorem tget_e {α : Type} : ∀ (d k : Nat), tget d (.e : T α) k = none
  | 0, _ => rfl
  | _ + 1, _ => rfl
theorem tget_set_other {α : Type} : ∀ (d : Nat) (t : T α) (k j : Nat) (x : Option α), k < 2 ^ d → j < 2 ^ d → j ≠ k → tget d (tset d t k x) j = tget d t j
  | 0, t, k, j, x, hk, hj, hne => by simp at hk hj; omega
  | d + 1, t, k, j, x, hk, hj, hne => by
    have hk2 : Nat.div k 2 < 2 ^ d := by show k / 2 < _; rw [Nat.pow_succ] at hk; omega
    have hj2 : Nat.div j 2 < 2 ^ d := by show j / 2 < _; rw [Nat.pow_succ] at hj; omega
    have hb : ∀ n, Nat.beq (Nat.mod n 2) 0 = decide (n % 2 = 0) := fun n => by
      show Nat.beq (n % 2) 0 = _
      by_cases h : n % 2 = 0
      · simp [h]
      · rw [decide_eq_false h]
        cases h' : Nat.beq (n % 2) 0 with
        | false => rfl
        | true => exact absurd (Nat.eq_of_beq_eq_true h') h
    have hm : Nat.beq (Nat.mod k 2) 0 = Nat.beq (Nat.mod j 2) 0 → Nat.div j 2 ≠ Nat.div k 2 := fun h e => by
      have e' : j / 2 = k / 2 := e
      rw [hb, hb] at h
      have : (k % 2 = 0) ↔ (j % 2 = 0) := by simpa using h
      omega
    have ih := fun t (h : Nat.beq (Nat.mod k 2) 0 = Nat.beq (Nat.mod j 2) 0) => tget_set_other d t _ _ x hk2 hj2 (hm h)
    rw [tset_succ, tget_succ, tget_succ]
    cases t with
    | n l r =>
      cases hk0 : Nat.beq (Nat.mod k 2) 0 <;> cases hj0 : Nat.beq (Nat.mod j 2) 0 <;> simp only [] <;> first | rfl | exact ih _ (by rw [hk0, hj0])
    | e =>
      cases hk0 : Nat.beq (Nat.mod k 2) 0 <;> cases hj0 : Nat.beq (Nat.mod j 2) 0 <;> simp only [] <;> first | exact tget_e _ _ | (rw [ih _ (by rw [hk0, hj0])]; exact tget_e _ _)
    | v y =>
      cases hk0 : Nat.beq (Nat.mod k 2) 0 <;> cases hj0 : Nat.beq (Nat.mod j 2) 0 <;> simp only [] <;> first | exact tget_e _ _ | (rw [ih _ (by rw [hk0, hj0])]; exact tget_e _ _)
inductive AObj where
  | cells (cs : List Value) (t : TypeId) (ro : Bool)
  | row (cs : List Value) (t : TypeId) (sz : Nat)
  | map (es : List (Value × Value))
  | tab (cs : List Value)
structure Heap where
  t : T AObj
  mw : Nat
def depth : Nat := 20
def hget (h : Heap) (b : Nat) : Option AObj := match Nat.blt b 1048576 with
  | true => tget depth h.t b
  | false => none
def hset (h : Heap) (b : Nat) (o : Option AObj) : Heap := match h with
  | ⟨t, mw⟩ => ⟨tset depth t b o, bif Nat.blt b mw then b else mw⟩
theorem hget_lt {h : Heap} {b : Nat} {o : AObj} (e : hget h b = some o) : b < 1048576 := by
  unfold hget at e
  split at e
  · rename_i hb; simp [Nat.blt] at hb; omega
  · cases e
theorem hget_set_same {h : Heap} {b : Nat} {o : Option AObj} (hb : b < 1048576) : hget (hset h b o) b = o := by
  have : Nat.blt b 1048576 = true := by simp [Nat.blt]; omega
  simp only [hget, hset, this, tget_set_same]
theorem hget_set_other {h : Heap} {b c : Nat} {o : Option AObj} (hb : b < 1048576) (hc : c ≠ b) : hget (hset h b o) c = hget h c := by
  unfold hget
  split
  · rename_i h'
    have : c < 1048576 := by simp [Nat.blt] at h'; omega
    exact tget_set_other depth h.t b c o (by simpa [depth] using hb) (by simpa [depth] using this) hc
  · rfl
def ents : Nat → List (Value × Value) → List MapEntry
  | _, [] => []
  | i, (k, v) :: r => ⟨k, v, i⟩ :: ents (i + 1) r
def rvp (ρ : Env) : List (Value × Value) → Option (List (Value × Value))
  | [] => some []
  | (k, v) :: r => match rv ρ k, rv ρ v, rvp ρ r with
    | some K, some V, some R => some ((K, V) :: R)
    | _, _, _ => none
theorem rvp_mono {ρ ρ' : Env} (h : ELe ρ ρ') : ∀ {l L : List (Value × Value)}, rvp ρ l = some L → rvp ρ' l = some L
  | [], L, e => by simpa [rvp] using e
  | (k, v) :: r, L, e => by
    unfold rvp at e ⊢
    split at e
    · rename_i K V R hk hv hr
      rw [rv_mono h hk, rv_mono h hv, rvp_mono h hr]
      exact e
    · cases e
def ObjOk (ρ : Env) (C : Nat) : AObj → Option Obj → Prop
  | .cells cs t _, x => ∃ CS, rvs ρ cs = some CS ∧ x = some (.cells CS.toArray t (0, 0))
  | .row cs t sz, x => ∃ CS arr, rvs ρ cs = some CS ∧ x = some (.cells arr t (0, 0)) ∧ arr.size = C * sz ∧ C ≤ maxLen ∧ CS.length ≤ arr.size ∧ arr.toList.take CS.length = CS
  | .map es, x => ∃ ES, rvp ρ es = some ES ∧ x = some (.map (ents 0 ES).toArray ES.length)
  | .tab cs, x => ∃ CS t f, rvs ρ cs = some CS ∧ x = some (.cells CS.toArray t f)
def AObj.ro : AObj → Bool
  | .cells _ _ r => r
  | .tab _ => true
  | _ => false
theorem ObjOk.mono {ρ ρ' : Env} (h : ELe ρ ρ') {C : Nat} {o : AObj} {x : Option Obj} (k : ObjOk ρ C o x) : ObjOk ρ' C o x := by
  cases o with
  | cells cs t r => obtain ⟨CS, h1, h2⟩ := k; exact ⟨CS, rvs_mono h h1, h2⟩
  | row cs t sz => obtain ⟨CS, arr, h1, h2⟩ := k; exact ⟨CS, arr, rvs_mono h h1, h2⟩
  | map es => obtain ⟨ES, h1, h2⟩ := k; exact ⟨ES, rvp_mono h h1, h2⟩
  | tab cs => obtain ⟨CS, t, f, h1, h2⟩ := k; exact ⟨CS, t, f, rvs_mono h h1, h2⟩
def HeapOk (ρ : Env) (h : Heap) (w : World) : Prop := ∀ b o, hget h b = some o → ∃ B C, ρ b = some (B, C, 0) ∧ ObjOk ρ C o w.heap[B]?
structure Rel (w0 : World) (ρ : Env) (h : Heap) (nx : Nat) (w : World) : Prop where
  ok : HeapOk ρ h w
  inj : ∀ b b' o o' B C C', hget h b = some o → hget h b' = some o' → ρ b = some (B, C, 0) → ρ b' = some (B, C', 0) → b = b'
  new : ∀ b, nx ≤ b → ρ b = none
  small : nx ≤ 1048576
  own : ∀ b o, hget h b = some o → o.ro = false → ∀ B C, ρ b = some (B, C, 0) → w0.heap.size ≤ B
  old : ∀ b o, hget h b = some o → o.ro = true → ∀ B C, ρ b = some (B, C, 0) → B < w0.heap.size
  keep : Keep [] w0 w
theorem Rel.lt {w0 : World} {ρ : Env} {h : Heap} {nx : Nat} {w : World} (r : Rel w0 ρ h nx w) {b : Nat} {o : AObj} (e : hget h b = some o) : b < nx := by
  rcases Nat.lt_or_ge b nx with h' | h'
  · exact h'
  · obtain ⟨B, C, hB, _⟩ := r.ok b o e
    rw [r.new b h'] at hB
    cases hB
end
section
open Go.RowKit Go.MapKept
open Go.Vcg (Keep aggOf sizeT zeroT run_isAgg run_zeroValue run_loadScalar run_loadAgg fieldT run_fieldAt add_lit cellsL cellsL_eq placesT placesL run_places callable)
def psem (P : Program) {α : Type} : Sem α → Option α
  | .pure a => some a
  | .program k => psem P (k P)
  | .mark _ k => psem P k
  | _ => none
theorem psem_run {P : Program} {α : Type} : ∀ {s : Sem α} {x : α}, psem P s = some x → ∀ w : World, s.run P w = .ok x w
  | .pure a, x, h, w => by simp [psem] at h; simp [Sem.run, h]
  | .program k, x, h, w => by
    unfold psem at h
    show (k P).run P w = _
    exact psem_run h w
  | .mark _ k, x, h, w => by
    unfold psem at h
    show k.run P w = _
    exact psem_run h w
  | .load _ _ _, x, h, w => by simp [psem] at h
  | .store _ _ _ _, x, h, w => by simp [psem] at h
  | .new _ _, x, h, w => by simp [psem] at h
  | .shape _ _, x, h, w => by simp [psem] at h
  | .freeze _ _ _, x, h, w => by simp [psem] at h
  | .frozen _ _, x, h, w => by simp [psem] at h
  | .getObj _ _, x, h, w => by simp [psem] at h
  | .setObj _ _ _, x, h, w => by simp [psem] at h
  | .choose _ _, x, h, w => by simp [psem] at h
  | .sys _ _, x, h, w => by simp [psem] at h
  | .halt _, x, h, w => by simp [psem] at h
def Glob (N : Nat) (ρ : Env) : Prop := ∀ g, g < N → ρ g = some (g, 0, 0)
theorem Glob.mono {N : Nat} {ρ ρ' : Env} (h : Glob N ρ) (k : ELe ρ ρ') : Glob N ρ' := fun g hg => k _ _ (h g hg)
def isHole : Value → Bool
  | .complex _ _ _ => true
  | _ => false
structure Sls where
  n : Nat
  t : T Value
def sget (l : Sls) (k : Nat) : Option Value := match Nat.blt k 512 with
  | true => tget 9 l.t k
  | false => none
def sset (l : Sls) (k : Nat) (v : Value) : Sls := match l with
  | ⟨n, t⟩ => match Nat.blt k n with
    | true => match Nat.blt k 512 with
      | true => ⟨n, tset 9 t k (some v)⟩
      | false => ⟨n, t⟩
    | false => ⟨n, t⟩
def TR (ρ : Env) (l : Sls) (t : Array Value) : Prop := t.size = l.n ∧ ∀ (i : Nat) (v : Value), sget l i = some v → isHole v = false → ∃ V, t[i]? = some V ∧ rv ρ v = some V
theorem TR.mono {ρ ρ' : Env} {l : Sls} {t : Array Value} (h : TR ρ l t) (k : ELe ρ ρ') : TR ρ' l t :=
  ⟨h.1, fun i v hv hh => let ⟨V, h1, h2⟩ := h.2 i v hv hh; ⟨V, h1, rv_mono k h2⟩⟩
structure Sl (N : Nat) (ρ : Env) (l : Sls) (a : Act) : Prop where
  glob : Glob N ρ
  tmps : TR ρ l a.tmps
def aev (N : Nat) (l : Sls) : Operand → Option Value
  | .tmp t => match sget l t with
    | some v => match isHole v with
      | true => none
      | false => some v
    | none => none
  | .const v => match flat2 v with
    | true => some v
    | false => none
  | .global g => match Nat.blt g N with
    | true => some (.pointer (some ⟨g, 0, none⟩))
    | false => none
  | .func f => some (.func (.func f) ⟨[]⟩ ⟨[]⟩)
section
variable {P : Program} {N : Nat} {ρ : Env} {h : Heap} {l : Sls} {a : Act} {w : World} {v : Value} {x : Operand}
theorem aev_sound (hs : Sl N ρ l a) (e : aev N l x = some v) : rv ρ v = some (a.eval x) := by
  unfold aev at e
  cases x with
  | tmp t =>
    simp only at e
    split at e
    · rename_i u hu
      split at e
      · cases e
      · rename_i hh
        cases e
        obtain ⟨V, h1, h2⟩ := hs.tmps.2 t v hu hh
        simp [Act.eval, h1, h2]
    · cases e
  | const u =>
    simp only at e
    split at e
    · rename_i hf; cases e; simpa [Act.eval] using rv_flat2 hf
    · cases e
  | global g =>
    simp only at e
    split at e
    · rename_i hg
      cases e
      have : g < N := by simp [Nat.blt] at hg; omega
      simp [rv, hs.glob g this, Act.eval]
    · cases e
  | func f => simp only at e; cases e; simp [rv, rvs, Act.eval]
def aevs (N : Nat) (l : Sls) : List Operand → Option (List Value)
  | [] => some []
  | x :: r => match aev N l x with
    | some v => match aevs N l r with
      | some vs => some (v :: vs)
      | none => none
    | none => none
theorem aevs_sound (hs : Sl N ρ l a) : ∀ {xs : List Operand} {vs : List Value}, aevs N l xs = some vs → rvs ρ vs = some (xs.map a.eval)
  | [], vs, e => by unfold aevs at e; cases e; simp [rvs]
  | x :: r, vs, e => by
    unfold aevs at e
    split at e
    · rename_i v hv
      split at e
      · rename_i us hu
        cases e
        unfold rvs
        rw [aev_sound hs hv, aevs_sound hs hu]
        rfl
      · cases e
    · cases e
theorem rv_flat2_eq {V : Value} (hf : flat2 v = true) (e : rv ρ v = some V) : V = v := by rw [rv_flat2 hf] at e; cases e; rfl
def Yes (P : Program) (ρ : Env) (a : Act) (w : World) (o : Oper) (v : Value) : Prop := ∃ V, rv ρ v = some V ∧ (execOp a.eval o).run P w = .ok (.value V) w
def hcells (h : Heap) (b : Nat) : Option (List Value) := match hget h b with
  | some (.cells cs _ _) => some cs
  | some (.row cs _ _) => some cs
  | some (.tab cs) => some cs
  | _ => none
theorem hcells_sound (hk : HeapOk ρ h w) {b : Nat} {cs : List Value} (e : hcells h b = some cs) : ∃ B C CS, ρ b = some (B, C, 0) ∧ rvs ρ cs = some CS ∧ ∀ (j : Nat) (V : Value), CS[j]? = some V → w.cell? ⟨B, j, none⟩ = some V := by
  unfold hcells at e
  split at e
  · rename_i cs' t r hg
    cases e
    obtain ⟨B, C, h1, CS, h2, h3⟩ := hk b _ hg
    exact ⟨B, C, CS, h1, h2, fun j V hV => by simp [World.cell?, h3, hV]⟩
  · rename_i cs' t sz hg
    cases e
    obtain ⟨B, C, h1, CS, arr, h2, h3, h4, h5, h6, h7⟩ := hk b _ hg
    refine ⟨B, C, CS, h1, h2, fun j V hV => ?_⟩
    have hj := (List.getElem?_eq_some_iff.1 hV).1
    rw [← h7, List.getElem?_take, if_pos hj] at hV
    simp [World.cell?, h3]
    simpa using hV
  · rename_i cs' hg
    cases e
    obtain ⟨B, C, h1, CS, t, f, h2, h3⟩ := hk b _ hg
    exact ⟨B, C, CS, h1, h2, fun j V hV => by simp [World.cell?, h3, hV]⟩
  · cases e
def varAt (P : Program) (t : TypeId) (cs : List Value) (off : Nat) : Option Value := match aggOf P t with
  | some false => nth cs off
  | some true => match sizeT P t with
    | some n => match takeD off n cs with
      | some xs => some (.agg ⟨xs⟩)
      | none => none
    | none => none
  | none => none
def ald (P : Program) (h : Heap) (t : TypeId) (v : Value) : Option Value := match v with
  | .pointer (some ⟨b, o, none⟩) => match hcells h b with
    | some cs => varAt P t cs o
    | none => none
  | _ => none
theorem rv_ptr {b o : Nat} {V : Value} {x : Nat × Nat × Nat} (hb : ρ b = some x) (e : rv ρ (.pointer (some ⟨b, o, none⟩)) = some V) : V = .pointer (some ⟨x.1, x.2.2 + o, none⟩) := by
  unfold rv at e
  rw [hb] at e
  cases e; rfl
theorem ald_sound (hk : HeapOk ρ h w) {t : TypeId} {u U : Value} (hu : rv ρ u = some U) (e : ald P h t u = some v) : ∃ V, rv ρ v = some V ∧ (Instr.loadAt t U).run P w = .ok V w := by
  unfold ald at e
  split at e
  · rename_i b o
    split at e
    · rename_i cs hc
      obtain ⟨B, C, CS, h1, h2, h3⟩ := hcells_sound hk hc
      have hU := rv_ptr h1 hu
      simp only [Nat.zero_add] at hU
      subst hU
      unfold varAt at e
      split at e
      · rename_i ha
        rw [nth_eq] at e
        obtain ⟨V, g1, g2⟩ := rvs_get h2 o v e
        exact ⟨V, g2, run_loadScalar ha (h3 o V g1)⟩
      · rename_i ha
        split at e
        · rename_i n hn
          split at e
          · rename_i xs hx
            cases e
            obtain ⟨XS, g1, g2, g3⟩ := rvs_takeD h2 hx
            refine ⟨.agg ⟨XS⟩, by simp [rv, g1], ?_⟩
            exact run_loadAgg XS ha (by rw [g2]; exact hn) fun j V hV => by rw [add_lit]; exact h3 _ _ (g3 j V hV)
          · cases e
        · cases e
      · cases e
    · cases e
  · cases e
theorem run_part {t : TypeId} {CS : List Value} {cs : List Value} {off : Nat} (hc : rvs ρ cs = some CS) (e : varAt P t cs off = some v) : ∃ V, rv ρ v = some V ∧ (part t ⟨CS⟩ off).run P w = .ok V w := by
  unfold varAt at e
  split at e
  · rename_i ha
    rw [nth_eq] at e
    obtain ⟨V, g1, g2⟩ := rvs_get hc off v e
    exact ⟨V, g2, by simp [part, run_isAgg ha, g1]⟩
  · rename_i ha
    split at e
    · rename_i n hn
      split at e
      · rename_i xs hx
        cases e
        obtain ⟨XS, g1, g2, g3⟩ := rvs_takeD hc hx
        refine ⟨.agg ⟨XS⟩, by simp [rv, g1], ?_⟩
        have : (CS.drop off).take n = XS := by
          apply List.ext_getElem?
          intro j
          rw [List.getElem?_take]
          by_cases hj : j < n
          · rw [if_pos (by omega), List.getElem?_drop]
            have : XS[j]? = some XS[j] := List.getElem?_eq_getElem (by omega)
            rw [this]; exact g3 _ _ this
          · rw [if_neg (by omega), List.getElem?_eq_none (by omega)]
        simp [part, run_isAgg ha, Go.Vcg.run_sizeOf hn, this]
      · cases e
    · cases e
  · cases e
def qbin (P : Program) (op : BinOp) (t : TypeId) (x y : Operand) (u v : Value) : Option Value := match flat2 u with
  | true => match flat2 v with
    | true => match psem P (do eqGuard op t x y u v; binOp op t u v) with
      | some r => match flat r with
        | true => some r
        | false => none
      | none => none
    | false => none
  | false => none
theorem rv_slice_some {b o n c : Nat} {V : Value} (e : rv ρ (.slice (some ⟨b, o, none⟩) n c) = some V) : ∃ A C, V = .slice (some A) n C := by
  unfold rv at e
  split at e
  · split at e
    · cases e; exact ⟨_, _, rfl⟩
    · split at e
      · cases e; exact ⟨_, _, rfl⟩
      · cases e
  · cases e
theorem rv_pointer_some {b o : Nat} {V : Value} (e : rv ρ (.pointer (some ⟨b, o, none⟩)) = some V) : ∃ A, V = .pointer (some A) := by
  unfold rv at e
  split at e
  · cases e; exact ⟨_, rfl⟩
  · cases e
theorem rv_map_some {b : Nat} {V : Value} (e : rv ρ (.map (some b)) = some V) : ∃ B C O, ρ b = some (B, C, O) ∧ V = .map (some B) := by
  unfold rv at e
  split at e
  · rename_i B C O hb; cases e; exact ⟨B, C, O, hb, rfl⟩
  · cases e
theorem rv_func {f : FuncId} {p q : Array Value} {V : Value} (e : rv ρ (.func (.func f) p q) = some V) : ∃ X Y, rvs ρ p.toList = some X ∧ rvs ρ q.toList = some Y ∧ V = .func (.func f) ⟨X⟩ ⟨Y⟩ := by
  obtain ⟨p⟩ := p
  obtain ⟨q⟩ := q
  unfold rv at e
  split at e
  · rename_i X Y h1 h2; cases e; exact ⟨X, Y, h1, h2, rfl⟩
  · cases e
theorem rv_iface {t : TypeId} {u V : Value} (e : rv ρ (.iface t u) = some V) : ∃ U, rv ρ u = some U ∧ V = .iface t U := by
  unfold rv at e
  split at e
  · rename_i U h1; cases e; exact ⟨U, h1, rfl⟩
  · cases e
theorem rv_nil {V : Value} (e : rv ρ v = some V) (hv : flat v = true) : V = v := by rw [rv_flat hv] at e; cases e; rfl
theorem rv_agg {p : Array Value} {V : Value} (e : rv ρ (.agg p) = some V) : ∃ X, rvs ρ p.toList = some X ∧ V = .agg ⟨X⟩ := by
  obtain ⟨p⟩ := p
  unfold rv at e
  split at e
  · rename_i X h1; cases e; exact ⟨X, h1, rfl⟩
  · cases e
theorem rv_tuple {p : Array Value} {V : Value} (e : rv ρ (.tuple p) = some V) : ∃ X, rvs ρ p.toList = some X ∧ V = .tuple ⟨X⟩ := by
  obtain ⟨p⟩ := p
  unfold rv at e
  split at e
  · rename_i X h1; cases e; exact ⟨X, h1, rfl⟩
  · cases e
theorem qbin_sound {op : BinOp} {t t2 : TypeId} {x y : Operand} {u v r : Value} {ds : Option Nat} {ty : TypeId} {pos : String} {af : Array Edge} {gd : Option (Nat × Bool)} (hu : rv ρ u = some (a.eval x)) (hv : rv ρ v = some (a.eval y)) (e : qbin P op t x y u v = some r) :
    Yes P ρ a w ⟨ds, .binOp op t x y t2, ty, pos, af, gd⟩ r := by
  unfold qbin at e
  split at e
  · rename_i h1
    split at e
    · rename_i h2
      split at e
      · rename_i r' hr
        split at e
        · rename_i hf
          cases e
          refine ⟨r, rv_flat hf, ?_⟩
          have e1 := rv_flat2_eq h1 hu
          have e2 := rv_flat2_eq h2 hv
          have := psem_run hr w
          simp only [execOp, e1, e2]
          simp only [Sem.run_bind] at this ⊢
          rw [this]
          rfl
        · cases e
      · cases e
    · cases e
  · cases e
def qnilT (P : Program) (t : TypeId) (u v : Value) : Bool := match P.underlying t with
  | some (.pointer _) => match u, v with
    | .pointer (some ⟨_, _, none⟩), .pointer none => true
    | .pointer none, .pointer (some ⟨_, _, none⟩) => true
    | _, _ => false
  | some (.slice _) => match u, v with
    | .slice (some ⟨_, _, none⟩) _ _, .slice none _ _ => true
    | _, _ => false
  | some (.map _ _) => match u, v with
    | .map (some _), .map none => true
    | _, _ => false
  | some (.func _ _ _) => match u, v with
    | .func (.func _) _ _, .nilFunc => true
    | _, _ => false
  | some (.interface _) => match u, v with
    | .iface _ _, .nilIface => true
    | _, _ => false
  | _ => false
def qnil (P : Program) (op : BinOp) (t : TypeId) (u v : Value) : Option Value := match op with
  | .eql => match qnilT P t u v with
    | true => some (.bool false)
    | false => none
  | .neq => match qnilT P t u v with
    | true => some (.bool true)
    | false => none
  | _ => none
theorem qnilT_sound {t : TypeId} {u v U V : Value} (hu : rv ρ u = some U) (hv : rv ρ v = some V) (e : qnilT P t u v = true) : (Op.equal t U V).run P w = .ok false w ∧ (∀ op x y, (eqGuard op t x y U V).run P w = .ok () w) ∧ binOp .eql t U V = (do pure (.bool (← Op.equal t U V))) ∧ binOp .neq t U V = (do pure (.bool (!(← Op.equal t U V)))) := by
  have hd : Op.maxDepth = 9999 + 1 := rfl
  unfold qnilT at e
  unfold Op.equal
  rw [hd]
  unfold Op.equalIn
  split at e
  · rename_i hT
    split at e
    · obtain ⟨A, rfl⟩ := rv_pointer_some hu
      cases rv_nil hv rfl
      exact ⟨by simp [run_underlying hT], fun op x y => by cases op <;> rfl, rfl, rfl⟩
    · obtain ⟨A, rfl⟩ := rv_pointer_some hv
      cases rv_nil hu rfl
      exact ⟨by simp [run_underlying hT], fun op x y => by cases op <;> rfl, rfl, rfl⟩
    · cases e
  · rename_i hT
    split at e
    · obtain ⟨A, C, rfl⟩ := rv_slice_some hu
      cases rv_nil hv rfl
      exact ⟨by simp [run_underlying hT], fun op x y => by cases op <;> rfl, rfl, rfl⟩
    · cases e
  · rename_i hT
    split at e
    · obtain ⟨A, C, O, _, rfl⟩ := rv_map_some hu
      cases rv_nil hv rfl
      exact ⟨by simp [run_underlying hT], fun op x y => by cases op <;> rfl, rfl, rfl⟩
    · cases e
  · rename_i hT
    split at e
    · obtain ⟨X, Y, _, _, rfl⟩ := rv_func hu
      cases rv_nil hv rfl
      exact ⟨by simp [run_underlying hT], fun op x y => by cases op <;> rfl, rfl, rfl⟩
    · cases e
  · rename_i hT
    split at e
    · obtain ⟨X, _, rfl⟩ := rv_iface hu
      cases rv_nil hv rfl
      exact ⟨by simp [run_underlying hT], fun op x y => by cases op <;> rfl, rfl, rfl⟩
    · cases e
  · cases e
theorem qnil_sound {op : BinOp} {t t2 : TypeId} {x y : Operand} {u v r : Value} {ds : Option Nat} {ty : TypeId} {pos : String} {af : Array Edge} {gd : Option (Nat × Bool)} (hu : rv ρ u = some (a.eval x)) (hv : rv ρ v = some (a.eval y)) (e : qnil P op t u v = some r) :
    Yes P ρ a w ⟨ds, .binOp op t x y t2, ty, pos, af, gd⟩ r := by
  unfold qnil at e
  split at e
  · split at e
    · rename_i hT
      cases e
      obtain ⟨h1, h2, h3, h4⟩ := qnilT_sound (w := w) hu hv hT
      exact ⟨_, rv_flat rfl, by simp [execOp, h2, h3, h1]⟩
    · cases e
  · split at e
    · rename_i hT
      cases e
      obtain ⟨h1, h2, h3, h4⟩ := qnilT_sound (w := w) hu hv hT
      exact ⟨_, rv_flat rfl, by simp [execOp, h2, h4, h1]⟩
    · cases e
  · cases e
theorem rv_slice {b o n c : Nat} {V : Value} (e : rv ρ (.slice (some ⟨b, o, none⟩) n c) = some V) : ∃ B C O, ρ b = some (B, C, O) ∧ ((c < capU ∧ V = .slice (some ⟨B, O + o, none⟩) n c) ∨ (capU ≤ c ∧ n + (c - capU) ≤ C ∧ V = .slice (some ⟨B, O + o, none⟩) n (C - (c - capU)))) := by
  unfold rv at e
  split at e
  · rename_i B C O hb
    split at e
    · rename_i hc; cases e; exact ⟨B, C, O, hb, .inl ⟨hc, rfl⟩⟩
    · rename_i hc
      split at e
      · rename_i hn; cases e; exact ⟨B, C, O, hb, .inr ⟨by omega, hn, rfl⟩⟩
      · cases e
  · cases e
end
end
section
open Go.RowKit Go.MapKept
open Go.Vcg (Keep beq_ne add_lit sizeT zeroT bytesT run_sizeOf)
def ext (ρ : Env) (b : Nat) (x : Nat × Nat × Nat) : Env := fun c => bif Nat.beq c b then some x else ρ c
theorem ext_same {ρ : Env} {b : Nat} {x : Nat × Nat × Nat} : ext ρ b x b = some x := by simp [ext]
theorem ext_ne {ρ : Env} {b c : Nat} {x : Nat × Nat × Nat} (h : c ≠ b) : ext ρ b x c = ρ c := by simp [ext, beq_ne h]
theorem ext_le {ρ : Env} {b : Nat} {x : Nat × Nat × Nat} (h : ρ b = none) : ELe ρ (ext ρ b x) := fun c y e => by
  by_cases hc : c = b
  · subst hc; rw [h] at e; cases e
  · rw [ext_ne hc]; exact e
structure Fresh (ρ : Env) (nx b nx' : Nat) : Prop where
  free : ρ b = none
  le : nx ≤ nx'
  lt : b < nx'
  small : nx' ≤ 1048576
def Pr (h h' : Heap) : Prop := h'.mw ≤ h.mw ∧ ∀ b, b < h'.mw → hget h' b = hget h b
theorem Pr.refl (h : Heap) : Pr h h := ⟨Nat.le_refl _, fun _ _ => rfl⟩
theorem Pr.trans {h h' h'' : Heap} (p : Pr h h') (q : Pr h' h'') : Pr h h'' := ⟨Nat.le_trans q.1 p.1, fun b hb => (q.2 b hb).trans (p.2 b (Nat.lt_of_lt_of_le hb q.1))⟩
theorem hset_mw (h : Heap) (b : Nat) (o : Option AObj) : (hset h b o).mw ≤ h.mw ∧ (hset h b o).mw ≤ b := by
  show (bif Nat.blt b h.mw then b else h.mw) ≤ h.mw ∧ (bif Nat.blt b h.mw then b else h.mw) ≤ b
  cases hb : Nat.blt b h.mw with
  | true => have : b < h.mw := by simp [Nat.blt] at hb; omega
            simp; omega
  | false =>
    have : h.mw ≤ b := Nat.le_of_not_lt fun hlt => by
      rw [show Nat.blt b h.mw = true from (by rw [Nat.blt, Nat.ble_eq]; exact hlt)] at hb; cases hb
    simpa using this
theorem Pr.set {h : Heap} {b : Nat} (hb : b < 1048576) (o : Option AObj) : Pr h (hset h b o) := ⟨(hset_mw h b o).1, fun c hc => hget_set_other hb (by have := (hset_mw h b o).2; omega)⟩
structure Fr (B : Nat) (w w' : World) : Prop where
  os : w'.os = w.os
  tape : w'.tape = w.tape
  output : w'.output = w.output
  size : w.heap.size ≤ w'.heap.size
  block : ∀ b, b < w.heap.size → b ≠ B → w'.heap[b]? = w.heap[b]?
structure Fr2 (B B2 : Nat) (w w' : World) : Prop where
  os : w'.os = w.os
  tape : w'.tape = w.tape
  output : w'.output = w.output
  size : w.heap.size ≤ w'.heap.size
  block : ∀ b, b < w.heap.size → b ≠ B → b ≠ B2 → w'.heap[b]? = w.heap[b]?
theorem Fr.two {B : Nat} {w w' : World} (h : Fr B w w') : Fr2 B B w w' := ⟨h.os, h.tape, h.output, h.size, fun b hb h1 _ => h.block b hb h1⟩
theorem ObjOk.lt {ρ : Env} {C : Nat} {o : AObj} {w : World} {B : Nat} (h : ObjOk ρ C o w.heap[B]?) : B < w.heap.size := by
  cases o with
  | cells cs t r => obtain ⟨_, _, h2⟩ := h; exact (Array.getElem?_eq_some_iff.1 h2).1
  | row cs t sz => obtain ⟨_, _, _, h2, _⟩ := h; exact (Array.getElem?_eq_some_iff.1 h2).1
  | map es => obtain ⟨_, _, h2⟩ := h; exact (Array.getElem?_eq_some_iff.1 h2).1
  | tab cs => obtain ⟨_, _, _, _, h2⟩ := h; exact (Array.getElem?_eq_some_iff.1 h2).1
section
variable {w0 w w' : World} {ρ : Env} {h : Heap} {nx : Nat}
theorem Fr.keep (r : Rel w0 ρ h nx w) {B : Nat} (fr : Fr B w w') (hB0 : w0.heap.size ≤ B) : Keep [] w0 w' :=
  ⟨fr.os.trans r.keep.os, fr.tape.trans r.keep.tape, fr.output.trans r.keep.output, Nat.le_trans r.keep.size fr.size, fun b hb _ => by
    rw [fr.block b (Nat.lt_of_lt_of_le hb r.keep.size) (by omega)]; exact r.keep.block b hb (by simp)⟩
theorem Rel.put2 {b0 nx' : Nat} (r : Rel w0 ρ h nx w) (hf : Fresh ρ nx b0 nx') {B B2 C : Nat} {o : AObj} (hro : o.ro = false) (fr : Fr2 B B2 w w') (hB0 : w0.heap.size ≤ B) (hB2 : w0.heap.size ≤ B2)
    (hfree2 : ∀ c o C', hget h c = some o → ρ c = some (B2, C', 0) → False) (hfree : ∀ c o C', hget h c = some o → ρ c = some (B, C', 0) → False) (ho : ObjOk (ext ρ b0 (B, C, 0)) C o w'.heap[B]?) : Rel w0 (ext ρ b0 (B, C, 0)) (hset h b0 (some o)) nx' w' :=
  have hbs : b0 < 1048576 := Nat.lt_of_lt_of_le hf.lt hf.small
  { 
  ok := fun b o' e => by
    by_cases hb : b = b0
    · subst hb; rw [hget_set_same hbs] at e; cases e; exact ⟨B, C, ext_same, ho⟩
    · rw [hget_set_other hbs hb] at e
      obtain ⟨B', C', h1, h2⟩ := r.ok b o' e
      have hne : B' ≠ B := fun e' => hfree b o' C' e (by rw [← e']; exact h1)
      refine ⟨B', C', by rw [ext_ne hb]; exact h1, ?_⟩
      have hne2 : B' ≠ B2 := fun e' => hfree2 b o' C' e (by rw [← e']; exact h1)
      rw [fr.block B' h2.lt hne hne2]
      exact h2.mono (ext_le hf.free)
  inj := fun b b' o1 o2 B' C' C'' e e' h1 h2 => by
    by_cases hb : b = b0
    · by_cases hb' : b' = b0
      · rw [hb, hb']
      · subst hb
        rw [ext_same] at h1; cases h1
        rw [hget_set_other hbs hb'] at e'
        rw [ext_ne hb'] at h2
        exact (hfree b' o2 C'' e' h2).elim
    · rw [hget_set_other hbs hb] at e
      rw [ext_ne hb] at h1
      by_cases hb' : b' = b0
      · subst hb'
        rw [ext_same] at h2; cases h2
        exact (hfree b o1 C' e h1).elim
      · rw [hget_set_other hbs hb'] at e'
        rw [ext_ne hb'] at h2
        exact r.inj b b' o1 o2 B' C' C'' e e' h1 h2
  new := fun b hb => by rw [ext_ne (by have := hf.lt; omega)]; exact r.new b (by have := hf.le; omega)
  small := hf.small
  own := fun b o' e hr B' C' h1 => by
    by_cases hb : b = b0
    · subst hb; rw [ext_same] at h1; cases h1; exact hB0
    · rw [hget_set_other hbs hb] at e
      rw [ext_ne hb] at h1
      exact r.own b o' e hr B' C' h1
  old := fun b o' e hr B' C' h1 => by
    by_cases hb : b = b0
    · subst hb; rw [hget_set_same hbs] at e; cases e; rw [hro] at hr; cases hr
    · rw [hget_set_other hbs hb] at e
      rw [ext_ne hb] at h1
      exact r.old b o' e hr B' C' h1
  keep := ⟨fr.os.trans r.keep.os, fr.tape.trans r.keep.tape, fr.output.trans r.keep.output, Nat.le_trans r.keep.size fr.size, fun b hb _ => by
    rw [fr.block b (Nat.lt_of_lt_of_le hb r.keep.size) (by omega) (by omega)]; exact r.keep.block b hb (by simp)⟩ }
theorem Rel.put {b0 nx' : Nat} (r : Rel w0 ρ h nx w) (hf : Fresh ρ nx b0 nx') {B C : Nat} {o : AObj} (hro : o.ro = false) (fr : Fr B w w') (hB0 : w0.heap.size ≤ B)
    (hfree : ∀ c o C', hget h c = some o → ρ c = some (B, C', 0) → False) (ho : ObjOk (ext ρ b0 (B, C, 0)) C o w'.heap[B]?) : Rel w0 (ext ρ b0 (B, C, 0)) (hset h b0 (some o)) nx' w' :=
  r.put2 hf hro fr.two hB0 hB0 hfree hfree ho
theorem Rel.drop (r : Rel w0 ρ h nx w) {b : Nat} (hb : b < 1048576) : Rel w0 ρ (hset h b none) nx w := by
  have key : ∀ c o, hget (hset h b none) c = some o → hget h c = some o := fun c o e => by
    by_cases hc : c = b
    · subst hc; rw [hget_set_same hb] at e; cases e
    · rw [hget_set_other hb hc] at e; exact e
  exact ⟨fun c o e => r.ok c o (key c o e), fun c c' o o' B C C' e e' => r.inj c c' o o' B C C' (key _ _ e) (key _ _ e'), r.new, r.small, fun c o e => r.own c o (key _ _ e), fun c o e => r.old c o (key _ _ e), r.keep⟩
theorem Rel.upd (r : Rel w0 ρ h nx w) {b B C : Nat} {o o' : AObj} (hb : hget h b = some o) (hro : o.ro = false) (hro' : o'.ro = false) (hB : ρ b = some (B, C, 0)) (fr : Fr B w w') (ho : ObjOk ρ C o' w'.heap[B]?) : Rel w0 ρ (hset h b (some o')) nx w' where
  ok := fun c o1 e => by
    by_cases hc : c = b
    · subst hc; rw [hget_set_same (hget_lt hb)] at e; cases e; exact ⟨B, C, hB, ho⟩
    · rw [hget_set_other (hget_lt hb) hc] at e
      obtain ⟨B', C', h1, h2⟩ := r.ok c o1 e
      have hne : B' ≠ B := fun e' => hc (r.inj c b o1 o B' C' C e hb h1 (by rw [e']; exact hB))
      exact ⟨B', C', h1, by rw [fr.block B' h2.lt hne]; exact h2⟩
  inj := fun c c' o1 o2 B' C' C'' e e' h1 h2 => by
    have key : ∀ c o1, hget (hset h b (some o')) c = some o1 → ∃ o2, hget h c = some o2 := fun c o1 e => by
      by_cases hc : c = b
      · subst hc; exact ⟨o, hb⟩
      · rw [hget_set_other (hget_lt hb) hc] at e; exact ⟨o1, e⟩
    obtain ⟨p, hp⟩ := key _ _ e
    obtain ⟨q, hq⟩ := key _ _ e'
    exact r.inj c c' p q B' C' C'' hp hq h1 h2
  new := r.new
  small := r.small
  own := fun c o1 e hr B' C' h1 => by
    by_cases hc : c = b
    · subst hc; exact r.own c o hb hro B' C' h1
    · rw [hget_set_other (hget_lt hb) hc] at e; exact r.own c o1 e hr B' C' h1
  old := fun c o1 e hr B' C' h1 => by
    by_cases hc : c = b
    · subst hc; rw [hget_set_same (hget_lt hb)] at e; cases e; rw [hro'] at hr; cases hr
    · rw [hget_set_other (hget_lt hb) hc] at e; exact r.old c o1 e hr B' C' h1
  keep := fr.keep r (r.own b o hb hro B C hB)
theorem Rel.after (r : Rel w0 ρ h nx w) (fr : Fr w.heap.size w w') : Rel w0 ρ h nx w' :=
  ⟨fun b o e => by
    obtain ⟨B, C, h1, h2⟩ := r.ok b o e
    exact ⟨B, C, h1, by rw [fr.block B h2.lt (by have := h2.lt; omega)]; exact h2⟩, r.inj, r.new, r.small, r.own, r.old, fr.keep r r.keep.size⟩
theorem Rel.name {b0 nx' : Nat} (r : Rel w0 ρ h nx w) (hf : Fresh ρ nx b0 nx') (x : Nat × Nat × Nat) : Rel w0 (ext ρ b0 x) h nx' w := by
  have hle := ext_le (x := x) hf.free
  have key : ∀ b o, hget h b = some o → ext ρ b0 x b = ρ b := fun b o e => ext_ne (fun hb => by
    obtain ⟨B, C, h1, _⟩ := r.ok b o e
    rw [hb, hf.free] at h1; cases h1)
  exact ⟨fun b o e => by
    obtain ⟨B, C, h1, h2⟩ := r.ok b o e
    exact ⟨B, C, hle _ _ h1, h2.mono hle⟩, fun b b' o o' B C C' e e' h1 h2 => r.inj b b' o o' B C C' e e' (by rw [← key b o e]; exact h1) (by rw [← key b' o' e']; exact h2),
    fun b hb => by rw [ext_ne (by have := hf.lt; omega)]; exact r.new b (by have := hf.le; omega), hf.small, fun b o e hr B C h1 => r.own b o e hr B C (by rw [← key b o e]; exact h1), fun b o e hr B C h1 => r.old b o e hr B C (by rw [← key b o e]; exact h1), r.keep⟩
theorem fr_alloc (w : World) (o : Obj) : Fr w.heap.size w (w.alloc o) := ⟨rfl, rfl, rfl, by simp, fun b hb _ => Below.heap_alloc w _ b hb⟩
theorem fr_alloc_drew (w : World) (o : Obj) : Fr w.heap.size w (w.drew.alloc o) := ⟨rfl, rfl, rfl, by simp, fun b hb _ => Below.heap_alloc w.drew _ b (by simpa using hb)⟩
theorem Rel.noSize (r : Rel w0 ρ h nx w) : ∀ c o C', hget h c = some o → ρ c = some (w.heap.size, C', 0) → False := fun c o C' e h1 => by
  obtain ⟨B, C, h2, h3⟩ := r.ok c o e
  rw [h1] at h2; cases h2
  have := h3.lt
  omega
theorem Rel.cells {b0 nx' : Nat} (r : Rel w0 ρ h nx w) (hf : Fresh ρ nx b0 nx') {cs CS : List Value} (hc : rvs ρ cs = some CS) (t : TypeId) :
    Rel w0 (ext ρ b0 (w.heap.size, 0, 0)) (hset h b0 (some (.cells cs t false))) nx' (w.alloc (.cells CS.toArray t)) :=
  r.put hf rfl (fr_alloc w _) r.keep.size r.noSize ⟨CS, rvs_mono (ext_le hf.free) hc, heap_alloc_new w _⟩
theorem Rel.row {b0 nx' : Nat} (r : Rel w0 ρ h nx w) (hf : Fresh ρ nx b0 nx') {cs CS : List Value} (hc : rvs ρ cs = some CS) (t : TypeId) {sz C : Nat} {arr : Array Value} (h1 : arr.size = C * sz) (h2 : C ≤ maxLen) (h3 : CS.length ≤ arr.size) (h4 : arr.toList.take CS.length = CS) :
    Rel w0 (ext ρ b0 (w.heap.size, C, 0)) (hset h b0 (some (.row cs t sz))) nx' (w.drew.alloc (.cells arr t)) :=
  r.put hf rfl (fr_alloc_drew w _) r.keep.size r.noSize ⟨CS, arr, rvs_mono (ext_le hf.free) hc, by
    have := heap_alloc_new w.drew (.cells arr t); simpa using this, h1, h2, h3, h4⟩
end
theorem rv_one {ρ : Env} {v V : Value} (h : rv ρ v = some V) : V.oneCell' = v.oneCell' := by
  cases v with
  | bool b => cases rv_nil h rfl; rfl
  | int k n => cases rv_nil h rfl; rfl
  | float k n => cases rv_nil h rfl; rfl
  | complex _ _ _ => simp [rv] at h
  | chan _ => simp [rv] at h
  | string s => cases rv_nil h rfl; rfl
  | pointer p =>
    match p with
    | none => cases rv_nil h rfl; rfl
    | some ⟨b, o, none⟩ => obtain ⟨A, rfl⟩ := rv_pointer_some h; rfl
    | some ⟨b, o, some _⟩ => simp [rv] at h
  | slice p n c =>
    match p with
    | none => cases rv_nil h rfl; rfl
    | some ⟨b, o, none⟩ => obtain ⟨A, C, rfl⟩ := rv_slice_some h; rfl
    | some ⟨b, o, some _⟩ => simp [rv] at h
  | map m =>
    cases m with
    | none => cases rv_nil h rfl; rfl
    | some b => obtain ⟨_, _, _, _, rfl⟩ := rv_map_some h; rfl
  | func f p q =>
    cases f with
    | func f => obtain ⟨_, _, _, _, rfl⟩ := rv_func h; rfl
    | method _ => simp [rv] at h
    | methodOf _ _ => simp [rv] at h
    | via _ _ _ _ => simp [rv] at h
    | yield _ => simp [rv] at h
  | nilFunc => cases rv_nil h rfl; rfl
  | iface t v => obtain ⟨_, _, rfl⟩ := rv_iface h; rfl
  | nilIface => cases rv_nil h rfl; rfl
  | agg p => obtain ⟨_, _, rfl⟩ := rv_agg h; rfl
  | tuple p => obtain ⟨_, _, rfl⟩ := rv_tuple h; rfl
theorem rvs_one {ρ : Env} : ∀ {l L : List Value}, rvs ρ l = some L → l.all (·.oneCell') = true → ∀ u ∈ L, u.oneCell' = true
  | [], L, h, _, u, hu => by simp [rvs] at h; subst h; cases hu
  | v :: r, L, h, ha, u, hu => by
    unfold rvs at h
    split at h
    · rename_i V R hv hr
      cases h
      simp only [List.all_cons, Bool.and_eq_true] at ha
      rcases List.mem_cons.1 hu with rfl | hu
      · rw [rv_one hv]; exact ha.1
      · exact rvs_one hr ha.2 u hu
    · cases h
def cellsOf : Value → List Value
  | .agg ⟨l⟩ => l
  | v => [v]
theorem rv_cells {ρ : Env} {v V : Value} (h : rv ρ v = some V) (h1 : (cellsOf v).all (·.oneCell') = true) : rvs ρ (cellsOf v) = some V.cells.toList := by
  cases v with
  | agg p => obtain ⟨X, hx, rfl⟩ := rv_agg h; simpa [cellsOf, Value.cells] using hx
  | tuple p => simp [cellsOf, Value.oneCell'] at h1
  | _ =>
    have h2 := rv_one h
    have h3 : V.cells = #[V] := Go.Vcg.one_cells (by rw [h2]; rfl)
    simp [cellsOf, rvs, h, h3]
end
end Go.Rex
namespace Go.Proofs.YtccbkihnedpjcaaDoor
end Go.Proofs.YtccbkihnedpjcaaDoor
