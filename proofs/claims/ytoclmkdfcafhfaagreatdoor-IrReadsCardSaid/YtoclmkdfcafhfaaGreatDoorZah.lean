/- A machine for closed runs: values whose blocks bear numbers of our own, and what they stand for. -/
import Derived.MapKept
import Derived.Test.YtoclmkdfcafhfaaGreatDoorZac
set_option maxRecDepth 20000
namespace Go.Rex
section
open Go.RowKit
open Go.Vcg (jP)
abbrev Env := Nat → Option (Nat × Nat × Nat)
def dX : Nat := 18446744073709551616
mutual
def rv (ρ : Env) : Value → Option Value
  | .bool b => some (.bool b)
  | .int k n => some (.int k n)
  | .float k n => some (.float k n)
  | .string s => some (.string s)
  | .pointer none => some (.pointer none)
  | .pointer (some ⟨b, o, none⟩) => match ρ b with
    | some (B, _, O) => some (.pointer (some ⟨B, O + o, none⟩))
    | none => none
  | .slice none n c => some (.slice none n c)
  | .slice (some ⟨b, o, none⟩) n c => match ρ b with
    | some (B, C, O) => if c < dX then some (.slice (some ⟨B, O + o, none⟩) n c)
      else if n + (c - dX) ≤ C then some (.slice (some ⟨B, O + o, none⟩) n (C - (c - dX))) else none
    | none => none
  | .map none => some (.map none)
  | .map (some b) => match ρ b with
    | some (B, _, _) => some (.map (some B))
    | none => none
  | .func (.func f) ⟨x⟩ ⟨y⟩ => match rvs ρ x, rvs ρ y with
    | some X, some Y => some (.func (.func f) ⟨X⟩ ⟨Y⟩)
    | _, _ => none
  | .nilFunc => some .nilFunc
  | .iface t v => match rv ρ v with
    | some V => some (.iface t V)
    | none => none
  | .nilIface => some .nilIface
  | .agg ⟨x⟩ => match rvs ρ x with
    | some X => some (.agg ⟨X⟩)
    | none => none
  | .tuple ⟨x⟩ => match rvs ρ x with
    | some X => some (.tuple ⟨X⟩)
    | none => none
  | _ => none
def rvs (ρ : Env) : List Value → Option (List Value)
  | [] => some []
  | v :: r => match rv ρ v, rvs ρ r with
    | some V, some R => some (V :: R)
    | _, _ => none
end
def ELe (ρ ρ' : Env) : Prop := ∀ b x, ρ b = some x → ρ' b = some x
theorem ELe.refl (ρ : Env) : ELe ρ ρ := fun _ _ h => h
theorem ELe.trans {ρ ρ' ρ'' : Env} (h : ELe ρ ρ') (k : ELe ρ' ρ'') : ELe ρ ρ'' := fun b x e => k b x (h b x e)
mutual
theorem rV {ρ ρ' : Env} (h : ELe ρ ρ') : ∀ {v V : Value}, rv ρ v = some V → rv ρ' v = some V
  | .bool _, _, e => by simpa [rv] using e
  | .int _ _, _, e => by simpa [rv] using e
  | .float _ _, _, e => by simpa [rv] using e
  | .complex _ _ _, _, e => by simp [rv] at e
  | .chan _, _, e => by simp [rv] at e
  | .string _, _, e => by simpa [rv] using e
  | .pointer none, _, e => by simpa [rv] using e
  | .pointer (some ⟨_, _, some _⟩), _, e => by simp [rv] at e
  | .pointer (some ⟨b, o, none⟩), V, e => by
    unfold rv at e ⊢
    cases hb : ρ b with
    | none => simp [hb] at e
    | some x => rw [h b x hb]; rw [hb] at e; exact e
  | .slice none _ _, _, e => by simpa [rv] using e
  | .slice (some ⟨_, _, some _⟩) _ _, _, e => by simp [rv] at e
  | .slice (some ⟨b, o, none⟩) n c, V, e => by
    unfold rv at e ⊢
    cases hb : ρ b with
    | none => simp [hb] at e
    | some x => rw [h b x hb]; rw [hb] at e; exact e
  | .map none, _, e => by simpa [rv] using e
  | .map (some b), V, e => by
    unfold rv at e ⊢
    cases hb : ρ b with
    | none => simp [hb] at e
    | some x => rw [h b x hb]; rw [hb] at e; exact e
  | .func (.func f) ⟨x⟩ ⟨y⟩, V, e => by
    unfold rv at e ⊢
    cases hx : rvs ρ x with
    | none => simp [hx] at e
    | some X =>
      cases hy : rvs ρ y with
      | none => simp [hx, hy] at e
      | some Y =>
        rw [eJ h hx, eJ h hy]
        rw [hx, hy] at e
        exact e
  | .func (.method _) _ _, _, e => by simp [rv] at e
  | .func (.methodOf _ _) _ _, _, e => by simp [rv] at e
  | .func (.via _ _ _ _) _ _, _, e => by simp [rv] at e
  | .func (.yield _) _ _, _, e => by simp [rv] at e
  | .nilFunc, _, e => by simpa [rv] using e
  | .iface t v, V, e => by
    unfold rv at e ⊢
    cases hv : rv ρ v with
    | none => simp [hv] at e
    | some x => rw [rV h hv]; rw [hv] at e; exact e
  | .nilIface, _, e => by simpa [rv] using e
  | .agg ⟨x⟩, V, e => by
    unfold rv at e ⊢
    cases hx : rvs ρ x with
    | none => simp [hx] at e
    | some X => rw [eJ h hx]; rw [hx] at e; exact e
  | .tuple ⟨x⟩, V, e => by
    unfold rv at e ⊢
    cases hx : rvs ρ x with
    | none => simp [hx] at e
    | some X => rw [eJ h hx]; rw [hx] at e; exact e
theorem eJ {ρ ρ' : Env} (h : ELe ρ ρ') : ∀ {v V : List Value}, rvs ρ v = some V → rvs ρ' v = some V
  | [], _, e => by simpa [rvs] using e
  | v :: r, V, e => by
    unfold rvs at e ⊢
    cases hv : rv ρ v with
    | none => simp [hv] at e
    | some x =>
      cases hr : rvs ρ r with
      | none => simp [hv, hr] at e
      | some R =>
        rw [rV h hv, eJ h hr]
        rw [hv, hr] at e
        exact e
end
def flat : Value → Bool
  | .bool _ => true
  | .int _ _ => true
  | .float _ _ => true
  | .string _ => true
  | .pointer none => true
  | .slice none _ _ => true
  | .map none => true
  | .nilFunc => true
  | .nilIface => true
  | _ => false
theorem gZ {ρ : Env} {v : Value} (h : flat v = true) : rv ρ v = some v := by
  unfold flat at h
  split at h <;> first | simp [rv] | cases h
def gV : List Value → Bool
  | [] => true
  | v :: r => match flat v with
    | true => gV r
    | false => false
theorem fO {ρ : Env} : ∀ {l : List Value}, gV l = true → rvs ρ l = some l
  | [], _ => by simp [rvs]
  | v :: r, h => by
    unfold gV at h
    split at h
    · rename_i hv
      unfold rvs
      rw [gZ hv, fO h]
    · cases h
def gW (v : Value) : Bool := match v with
  | .agg ⟨l⟩ => gV l
  | .tuple ⟨l⟩ => gV l
  | .iface _ v => flat v
  | .func (.func _) ⟨[]⟩ ⟨[]⟩ => true
  | v => flat v
theorem eB {ρ : Env} {v : Value} (h : gW v = true) : rv ρ v = some v := by
  unfold gW at h
  split at h
  · unfold rv; rw [fO h]
  · unfold rv; rw [fO h]
  · unfold rv; rw [gZ h]
  · simp [rv, rvs]
  · exact gZ h
def nth {α : Type} : List α → Nat → Option α
  | [], _ => none
  | x :: r, i => match i with
    | 0 => some x
    | i + 1 => nth r i
theorem mF {α : Type} : ∀ (l : List α) (i : Nat), nth l i = l[i]?
  | [], _ => by simp [nth]
  | x :: r, 0 => by simp [nth]
  | x :: r, i + 1 => by simp [nth, mF r i]
def lK {α : Type} : Nat → Nat → List α → Option (List α)
  | 0, n, l => takeN n l
  | d + 1, n, l => match l with
    | [] => none
    | _ :: r => lK d n r
where
  takeN : Nat → List α → Option (List α)
  | 0, _ => some []
  | n + 1, l => match l with
    | [] => none
    | x :: r => match takeN n r with
      | some r' => some (x :: r')
      | none => none
theorem wE {α : Type} : ∀ {n : Nat} {l xs : List α}, lK.takeN n l = some xs → xs.length = n ∧ ∀ j, j < n → l[j]? = xs[j]?
  | 0, l, xs, h => by unfold lK.takeN at h; cases h; simp
  | n + 1, [], xs, h => by unfold lK.takeN at h; cases h
  | n + 1, x :: r, xs, h => by
    unfold lK.takeN at h
    simp only at h
    split at h
    · rename_i r' hr
      cases h
      obtain ⟨h1, h2⟩ := wE hr
      refine ⟨by simp [h1], fun j hj => ?_⟩
      cases j with
      | zero => simp
      | succ j => simpa using h2 j (by omega)
    · cases h
theorem wF {α : Type} : ∀ {d n : Nat} {l xs : List α}, lK d n l = some xs → xs.length = n ∧ ∀ j, j < n → l[d + j]? = xs[j]?
  | 0, n, l, xs, h => by unfold lK at h; simpa using wE h
  | d + 1, n, [], xs, h => by unfold lK at h; cases h
  | d + 1, n, x :: r, xs, h => by
    unfold lK at h
    obtain ⟨h1, h2⟩ := wF h
    refine ⟨h1, fun j hj => ?_⟩
    have e : d + 1 + j = (d + j) + 1 := by omega
    rw [e]
    simpa using h2 j hj
def tR {α : Type} : Nat → List α → List α → Option (List α)
  | 0, ys, l => layN ys l
  | d + 1, ys, l => match l with
    | [] => none
    | x :: r => match tR d ys r with
      | some r' => some (x :: r')
      | none => none
where
  layN : List α → List α → Option (List α)
  | [], l => some l
  | y :: ys, l => match l with
    | [] => none
    | _ :: r => match layN ys r with
      | some r' => some (y :: r')
      | none => none
theorem CU {α : Type} : ∀ {ys l xs : List α}, tR.layN ys l = some xs → ys.length ≤ l.length ∧ xs = ys ++ l.drop ys.length
  | [], l, xs, h => by unfold tR.layN at h; cases h; simp
  | y :: ys, [], xs, h => by unfold tR.layN at h; cases h
  | y :: ys, x :: r, xs, h => by
    unfold tR.layN at h
    simp only at h
    split at h
    · rename_i r' hr
      cases h
      obtain ⟨h1, h2⟩ := CU hr
      exact ⟨by simpa using h1, by simp [h2]⟩
    · cases h
theorem CV {α : Type} : ∀ {d : Nat} {ys l xs : List α}, tR d ys l = some xs → d + ys.length ≤ l.length ∧ xs = l.take d ++ ys ++ l.drop (d + ys.length)
  | 0, ys, l, xs, h => by unfold tR at h; simpa using CU h
  | d + 1, ys, [], xs, h => by unfold tR at h; cases h
  | d + 1, ys, x :: r, xs, h => by
    unfold tR at h
    simp only at h
    split at h
    · rename_i r' hr
      cases h
      obtain ⟨h1, h2⟩ := CV hr
      have e : d + 1 + ys.length = d + ys.length + 1 := by omega
      refine ⟨by simp; omega, by simp [h2, e]⟩
    · cases h
theorem cW {ρ : Env} : ∀ {l L : List Value}, rvs ρ l = some L → L.length = l.length
  | [], L, h => by simp [rvs] at h; simp [h]
  | v :: r, L, h => by
    unfold rvs at h
    split at h
    · rename_i V R hv hr
      cases h
      simp [cW hr]
    · cases h
theorem nN {ρ : Env} : ∀ {l L : List Value}, rvs ρ l = some L → ∀ (i : Nat) (v : Value), l[i]? = some v → ∃ V, L[i]? = some V ∧ rv ρ v = some V
  | [], L, h, i, v, e => by simp at e
  | u :: r, L, h, i, v, e => by
    unfold rvs at h
    split at h
    · rename_i V R hv hr
      cases h
      cases i with
      | zero => simp at e; subst e; exact ⟨V, by simp, hv⟩
      | succ i => simpa using nN hr i v (by simpa using e)
    · cases h
theorem qV {ρ : Env} : ∀ {l L : List Value}, L.length = l.length → (∀ (i : Nat) (v : Value), l[i]? = some v → ∃ V, L[i]? = some V ∧ rv ρ v = some V) → rvs ρ l = some L
  | [], [], _, _ => by simp [rvs]
  | [], _ :: _, h, _ => by simp at h
  | _ :: _, [], h, _ => by simp at h
  | v :: r, V :: R, h, hg => by
    unfold rvs
    obtain ⟨V', h1, h2⟩ := hg 0 v (by simp)
    simp at h1
    subst h1
    have hr : rvs ρ r = some R := qV (by simpa using h) fun i u hu => by
      simpa using hg (i + 1) u (by simpa using hu)
    rw [h2, hr]
theorem gA {ρ : Env} : ∀ {l m L M : List Value}, rvs ρ l = some L → rvs ρ m = some M → rvs ρ (l ++ m) = some (L ++ M)
  | [], m, L, M, h, k => by simp [rvs] at h; subst h; simpa using k
  | v :: r, m, L, M, h, k => by
    unfold rvs at h
    split at h
    · rename_i V R hv hr
      cases h
      simp only [List.cons_append]
      unfold rvs
      rw [hv, gA hr k]
    · cases h
theorem HV {ρ : Env} {l L : List Value} (h : rvs ρ l = some L) (n : Nat) : rvs ρ (l.take n) = some (L.take n) :=
  qV (by simp [cW h]) fun i v hv => by
    rw [List.getElem?_take] at hv
    split at hv
    · rename_i hi
      obtain ⟨V, h1, h2⟩ := nN h i v hv
      exact ⟨V, by rw [List.getElem?_take, if_pos hi]; exact h1, h2⟩
    · cases hv
theorem HW {ρ : Env} {l L : List Value} (h : rvs ρ l = some L) (n : Nat) : rvs ρ (l.drop n) = some (L.drop n) :=
  qV (by simp [cW h]) fun i v hv => by
    rw [List.getElem?_drop] at hv
    obtain ⟨V, h1, h2⟩ := nN h _ v hv
    exact ⟨V, by rw [List.getElem?_drop]; exact h1, h2⟩
theorem mN {ρ : Env} {l L xs : List Value} {d n : Nat} (h : rvs ρ l = some L) (e : lK d n l = some xs) : ∃ XS, rvs ρ xs = some XS ∧ XS.length = n ∧ ∀ j V, XS[j]? = some V → L[d + j]? = some V := by
  obtain ⟨h1, h2⟩ := wF e
  have hx : xs = (l.drop d).take n := by
    apply List.ext_getElem?
    intro j
    rw [List.getElem?_take]
    split
    · rename_i hj
      rw [List.getElem?_drop, h2 j hj]
    · rename_i hj
      exact List.getElem?_eq_none (by omega)
  subst hx
  have hr := HV (HW h d) n
  refine ⟨_, hr, by rw [cW hr, h1], fun j V hV => ?_⟩
  rw [List.getElem?_take] at hV
  split at hV
  · rw [List.getElem?_drop] at hV; exact hV
  · cases hV
theorem wQ {ρ : Env} {l L ys YS xs : List Value} {d : Nat} (h : rvs ρ l = some L) (hy : rvs ρ ys = some YS) (e : tR d ys l = some xs) : d + YS.length ≤ L.length ∧ rvs ρ xs = some (L.take d ++ YS ++ L.drop (d + YS.length)) := by
  obtain ⟨h1, h2⟩ := CV e
  subst h2
  refine ⟨by rw [cW h, cW hy]; exact h1, ?_⟩
  rw [cW hy]
  exact gA (gA (HV h d) hy) (HW h _)
inductive T (α : Type) where
  | e
  | v (x : α)
  | n (l r : T α)
def wD {α : Type} (d : Nat) : T α → Nat → Option α :=
  Nat.rec (motive := fun _ => T α → Nat → Option α)
    (fun t _ => match t with
      | .v x => some x
      | .e => none
      | .n _ _ => none)
    (fun _ ih t k => match t with
      | .n l r => match Nat.beq (Nat.mod k 2) 0 with
        | true => ih l (Nat.div k 2)
        | false => ih r (Nat.div k 2)
      | .e => none
      | .v _ => none) d
def tG {α : Type} (d : Nat) : T α → Nat → Option α → T α :=
  Nat.rec (motive := fun _ => T α → Nat → Option α → T α)
    (fun _ _ x => match x with
      | some x => .v x
      | none => .e)
    (fun _ ih t k x => match t with
      | .n l r => match Nat.beq (Nat.mod k 2) 0 with
        | true => .n (ih l (Nat.div k 2) x) r
        | false => .n l (ih r (Nat.div k 2) x)
      | .e => match Nat.beq (Nat.mod k 2) 0 with
        | true => .n (ih .e (Nat.div k 2) x) .e
        | false => .n .e (ih .e (Nat.div k 2) x)
      | .v _ => match Nat.beq (Nat.mod k 2) 0 with
        | true => .n (ih .e (Nat.div k 2) x) .e
        | false => .n .e (ih .e (Nat.div k 2) x)) d
theorem tH {α : Type} (d : Nat) (t : T α) (k : Nat) : wD (d + 1) t k = match t with
      | .n l r => match Nat.beq (Nat.mod k 2) 0 with
        | true => wD d l (Nat.div k 2)
        | false => wD d r (Nat.div k 2)
      | .e => none
      | .v _ => none := rfl
theorem AW {α : Type} (d : Nat) (t : T α) (k : Nat) (x : Option α) : tG (d + 1) t k x = match t with
      | .n l r => match Nat.beq (Nat.mod k 2) 0 with
        | true => .n (tG d l (Nat.div k 2) x) r
        | false => .n l (tG d r (Nat.div k 2) x)
      | .e => match Nat.beq (Nat.mod k 2) 0 with
        | true => .n (tG d .e (Nat.div k 2) x) .e
        | false => .n .e (tG d .e (Nat.div k 2) x)
      | .v _ => match Nat.beq (Nat.mod k 2) 0 with
        | true => .n (tG d .e (Nat.div k 2) x) .e
        | false => .n .e (tG d .e (Nat.div k 2) x) := rfl
theorem jQ {α : Type} : ∀ (d : Nat) (t : T α) (k : Nat) (x : Option α), wD d (tG d t k x) k = x
  | 0, t, k, x => by cases x <;> rfl
  | d + 1, t, k, x => by
    rw [AW, tH]
    cases t <;> cases h : Nat.beq (Nat.mod k 2) 0 <;> exact jQ d _ _ x
theorem oI {α : Type} : ∀ (d k : Nat), wD d (.e : T α) k = none
  | 0, _ => rfl
  | _ + 1, _ => rfl
theorem iR {α : Type} : ∀ (d : Nat) (t : T α) (k j : Nat) (x : Option α), k < 2 ^ d → j < 2 ^ d → j ≠ k → wD d (tG d t k x) j = wD d t j
  | 0, t, k, j, x, hk, hj, hne => by simp at hk hj; omega
  | d + 1, t, k, j, x, hk, hj, hne => by
    have hk2 : Nat.div k 2 < 2 ^ d := by show k / 2 < _; rw [Nat.pow_succ] at hk; omega
    have hj2 : Nat.div j 2 < 2 ^ d := by show j / 2 < _; rw [Nat.pow_succ] at hj; omega
    have hb : ∀ n, Nat.beq (Nat.mod n 2) 0 = decide (n % 2 = 0) := fun n => by
      show Nat.beq (n % 2) 0 = _
      by_cases h : n % 2 = 0
      · simp [h]
      · rw [decide_eq_false h]
        cases h' : Nat.beq (n % 2) 0 with
        | false => rfl
        | true => exact absurd (Nat.eq_of_beq_eq_true h') h
    have hm : Nat.beq (Nat.mod k 2) 0 = Nat.beq (Nat.mod j 2) 0 → Nat.div j 2 ≠ Nat.div k 2 := fun h e => by
      have e' : j / 2 = k / 2 := e
      rw [hb, hb] at h
      have : (k % 2 = 0) ↔ (j % 2 = 0) := by simpa using h
      omega
    have ih := fun t (h : Nat.beq (Nat.mod k 2) 0 = Nat.beq (Nat.mod j 2) 0) => iR d t _ _ x hk2 hj2 (hm h)
    rw [AW, tH, tH]
    cases t with
    | n l r =>
      cases hk0 : Nat.beq (Nat.mod k 2) 0 <;> cases hj0 : Nat.beq (Nat.mod j 2) 0 <;> simp only [] <;> exact ih _ (by rw [hk0, hj0])
    | e =>
      cases hk0 : Nat.beq (Nat.mod k 2) 0 <;> cases hj0 : Nat.beq (Nat.mod j 2) 0 <;> simp only [] <;> first | exact oI _ _ | (rw [ih _ (by rw [hk0, hj0])]; exact oI _ _)
    | v y =>
      cases hk0 : Nat.beq (Nat.mod k 2) 0 <;> cases hj0 : Nat.beq (Nat.mod j 2) 0 <;> simp only [] <;> first | exact oI _ _ | (rw [ih _ (by rw [hk0, hj0])]; exact oI _ _)
inductive kD where
  | cells (cs : List Value) (t : TypeId) (ro : Bool)
  | row (cs : List Value) (t : TypeId) (sz : Nat)
  | map (es : List (Value × Value))
  | tab (cs : List Value)
structure Heap where
  t : T kD
  mw : Nat
def depth : Nat := 20
def cL (h : Heap) (b : Nat) : Option kD := match Nat.blt b 1048576 with
  | true => wD depth h.t b
  | false => none
def eL (h : Heap) (b : Nat) (o : Option kD) : Heap := match h with
  | ⟨t, mw⟩ => ⟨tG depth t b o, bif Nat.blt b mw then b else mw⟩
theorem cJ {h : Heap} {b : Nat} {o : kD} (e : cL h b = some o) : b < 1048576 := by
  unfold cL at e
  split at e
  · rename_i hb; simp [Nat.blt] at hb; omega
  · cases e
theorem cV {h : Heap} {b : Nat} {o : Option kD} (hb : b < 1048576) : cL (eL h b o) b = o := by
  have : Nat.blt b 1048576 = true := by simp [Nat.blt]; omega
  simp only [cL, eL, this, jQ]
theorem bC {h : Heap} {b c : Nat} {o : Option kD} (hb : b < 1048576) (hc : c ≠ b) : cL (eL h b o) c = cL h c := by
  unfold cL
  split
  · rename_i h'
    have : c < 1048576 := by simp [Nat.blt] at h'; omega
    exact iR depth h.t b c o (by simpa [depth] using hb) (by simpa [depth] using this) hc
  · rfl
def fU : Nat → List (Value × Value) → List MapEntry
  | _, [] => []
  | i, (k, v) :: r => ⟨k, v, i⟩ :: fU (i + 1) r
def rvp (ρ : Env) : List (Value × Value) → Option (List (Value × Value))
  | [] => some []
  | (k, v) :: r => match rv ρ k, rv ρ v, rvp ρ r with
    | some K, some V, some R => some ((K, V) :: R)
    | _, _, _ => none
theorem wR {ρ ρ' : Env} (h : ELe ρ ρ') : ∀ {l L : List (Value × Value)}, rvp ρ l = some L → rvp ρ' l = some L
  | [], L, e => by simpa [rvp] using e
  | (k, v) :: r, L, e => by
    unfold rvp at e ⊢
    split at e
    · rename_i K V R hk hv hr
      rw [rV h hk, rV h hv, wR h hr]
      exact e
    · cases e
def kC (ρ : Env) (C : Nat) : kD → Option Obj → Prop
  | .cells cs t _, x => ∃ CS, rvs ρ cs = some CS ∧ x = some (.cells CS.toArray t (0, 0))
  | .row cs t sz, x => ∃ CS arr, rvs ρ cs = some CS ∧ x = some (.cells arr t (0, 0)) ∧ arr.size = C * sz ∧ C ≤ maxLen ∧ CS.length ≤ arr.size ∧ arr.toList.take CS.length = CS
  | .map es, x => ∃ ES, rvp ρ es = some ES ∧ x = some (.map (fU 0 ES).toArray ES.length)
  | .tab cs, x => ∃ CS t f, rvs ρ cs = some CS ∧ x = some (.cells CS.toArray t f)
def kD.ro : kD → Bool
  | .cells _ _ r => r
  | .tab _ => true
  | _ => false
theorem kC.mono {ρ ρ' : Env} (h : ELe ρ ρ') {C : Nat} {o : kD} {x : Option Obj} (k : kC ρ C o x) : kC ρ' C o x := by
  cases o with
  | cells cs t r => obtain ⟨CS, h1, h2⟩ := k; exact ⟨CS, eJ h h1, h2⟩
  | row cs t sz => obtain ⟨CS, arr, h1, h2⟩ := k; exact ⟨CS, arr, eJ h h1, h2⟩
  | map es => obtain ⟨ES, h1, h2⟩ := k; exact ⟨ES, wR h h1, h2⟩
  | tab cs => obtain ⟨CS, t, f, h1, h2⟩ := k; exact ⟨CS, t, f, eJ h h1, h2⟩
def nX (ρ : Env) (h : Heap) (w : World) : Prop := ∀ b o, cL h b = some o → ∃ B C, ρ b = some (B, C, 0) ∧ kC ρ C o w.heap[B]?
structure Rel (w0 : World) (ρ : Env) (h : Heap) (nx : Nat) (w : World) : Prop where
  ok : nX ρ h w
  inj : ∀ b b' o o' B C C', cL h b = some o → cL h b' = some o' → ρ b = some (B, C, 0) → ρ b' = some (B, C', 0) → b = b'
  new : ∀ b, nx ≤ b → ρ b = none
  small : nx ≤ 1048576
  own : ∀ b o, cL h b = some o → o.ro = false → ∀ B C, ρ b = some (B, C, 0) → w0.heap.size ≤ B
  old : ∀ b o, cL h b = some o → o.ro = true → ∀ B C, ρ b = some (B, C, 0) → B < w0.heap.size
  aT : jP [] w0 w
theorem Rel.lt {w0 : World} {ρ : Env} {h : Heap} {nx : Nat} {w : World} (r : Rel w0 ρ h nx w) {b : Nat} {o : kD} (e : cL h b = some o) : b < nx := by
  rcases Nat.lt_or_ge b nx with h' | h'
  · exact h'
  · obtain ⟨B, C, hB, _⟩ := r.ok b o e
    rw [r.new b h'] at hB
    cases hB
end
section
open Go.RowKit Go.MapKept
open Go.Vcg (jP eU bA cH cI aK fB jV pF jW add_lit iG fS lN lO run_places bW)
def mS (P : Program) {α : Type} : Sem α → Option α
  | .pure a => some a
  | .program k => mS P (k P)
  | .mark _ k => mS P k
  | _ => none
theorem oS {P : Program} {α : Type} : ∀ {s : Sem α} {x : α}, mS P s = some x → ∀ w : World, s.run P w = .ok x w
  | .pure a, x, h, w => by simp [mS] at h; simp [Sem.run, h]
  | .program k, x, h, w => by
    unfold mS at h
    show (k P).run P w = _
    exact oS h w
  | .mark _ k, x, h, w => by
    unfold mS at h
    show k.run P w = _
    exact oS h w
  | .load _ _ _, x, h, w => by simp [mS] at h
  | .store _ _ _ _, x, h, w => by simp [mS] at h
  | .new _ _, x, h, w => by simp [mS] at h
  | .shape _ _, x, h, w => by simp [mS] at h
  | .freeze _ _ _, x, h, w => by simp [mS] at h
  | .frozen _ _, x, h, w => by simp [mS] at h
  | .getObj _ _, x, h, w => by simp [mS] at h
  | .setObj _ _ _, x, h, w => by simp [mS] at h
  | .choose _ _, x, h, w => by simp [mS] at h
  | .sys _ _, x, h, w => by simp [mS] at h
  | .halt _, x, h, w => by simp [mS] at h
def RC (N : Nat) (ρ : Env) : Prop := ∀ g, g < N → ρ g = some (g, 0, 0)
theorem RC.mono {N : Nat} {ρ ρ' : Env} (h : RC N ρ) (k : ELe ρ ρ') : RC N ρ' := fun g hg => k _ _ (h g hg)
def isHole : Value → Bool
  | .complex _ _ _ => true
  | _ => false
structure Sls where
  n : Nat
  t : T Value
def wL (l : Sls) (k : Nat) : Option Value := match Nat.blt k 512 with
  | true => wD 9 l.t k
  | false => none
def sset (l : Sls) (k : Nat) (v : Value) : Sls := match l with
  | ⟨n, t⟩ => match Nat.blt k n with
    | true => match Nat.blt k 512 with
      | true => ⟨n, tG 9 t k (some v)⟩
      | false => ⟨n, t⟩
    | false => ⟨n, t⟩
def TR (ρ : Env) (l : Sls) (t : Array Value) : Prop := t.size = l.n ∧ ∀ (i : Nat) (v : Value), wL l i = some v → isHole v = false → ∃ V, t[i]? = some V ∧ rv ρ v = some V
theorem TR.mono {ρ ρ' : Env} {l : Sls} {t : Array Value} (h : TR ρ l t) (k : ELe ρ ρ') : TR ρ' l t :=
  ⟨h.1, fun i v hv hh => let ⟨V, h1, h2⟩ := h.2 i v hv hh; ⟨V, h1, rV k h2⟩⟩
structure Sl (N : Nat) (ρ : Env) (l : Sls) (a : Act) : Prop where
  glob : RC N ρ
  tmps : TR ρ l a.tmps
def aev (N : Nat) (l : Sls) : Operand → Option Value
  | .tmp t => match wL l t with
    | some v => match isHole v with
      | true => none
      | false => some v
    | none => none
  | .const v => match gW v with
    | true => some v
    | false => none
  | .global g => match Nat.blt g N with
    | true => some (.pointer (some ⟨g, 0, none⟩))
    | false => none
  | .func f => some (.func (.func f) ⟨[]⟩ ⟨[]⟩)
section
variable {P : Program} {N : Nat} {ρ : Env} {h : Heap} {l : Sls} {a : Act} {w : World} {v : Value} {x : Operand}
theorem aG (hs : Sl N ρ l a) (e : aev N l x = some v) : rv ρ v = some (a.eval x) := by
  unfold aev at e
  cases x with
  | tmp t =>
    simp only at e
    split at e
    · rename_i u hu
      split at e
      · cases e
      · rename_i hh
        cases e
        obtain ⟨V, h1, h2⟩ := hs.tmps.2 t v hu hh
        simp [Act.eval, h1, h2]
    · cases e
  | const u =>
    simp only at e
    split at e
    · rename_i hf; cases e; simpa [Act.eval] using eB hf
    · cases e
  | global g =>
    simp only at e
    split at e
    · rename_i hg
      cases e
      have : g < N := by simp [Nat.blt] at hg; omega
      simp [rv, hs.glob g this, Act.eval]
    · cases e
  | func f => simp only at e; cases e; simp [rv, rvs, Act.eval]
def GX (N : Nat) (l : Sls) : List Operand → Option (List Value)
  | [] => some []
  | x :: r => match aev N l x with
    | some v => match GX N l r with
      | some vs => some (v :: vs)
      | none => none
    | none => none
theorem jO (hs : Sl N ρ l a) : ∀ {xs : List Operand} {vs : List Value}, GX N l xs = some vs → rvs ρ vs = some (xs.map a.eval)
  | [], vs, e => by unfold GX at e; cases e; simp [rvs]
  | x :: r, vs, e => by
    unfold GX at e
    split at e
    · rename_i v hv
      split at e
      · rename_i us hu
        cases e
        unfold rvs
        rw [aG hs hv, jO hs hu]
        rfl
      · cases e
    · cases e
theorem eP {V : Value} (hf : gW v = true) (e : rv ρ v = some V) : V = v := by rw [eB hf] at e; cases e; rfl
def Yes (P : Program) (ρ : Env) (a : Act) (w : World) (o : Oper) (v : Value) : Prop := ∃ V, rv ρ v = some V ∧ (execOp a.eval o).run P w = .ok (.value V) w
def tS (h : Heap) (b : Nat) : Option (List Value) := match cL h b with
  | some (.cells cs _ _) => some cs
  | some (.row cs _ _) => some cs
  | some (.tab cs) => some cs
  | _ => none
theorem kS (hk : nX ρ h w) {b : Nat} {cs : List Value} (e : tS h b = some cs) : ∃ B C CS, ρ b = some (B, C, 0) ∧ rvs ρ cs = some CS ∧ ∀ (j : Nat) (V : Value), CS[j]? = some V → w.cell? ⟨B, j, none⟩ = some V := by
  unfold tS at e
  split at e
  · rename_i cs' t r hg
    cases e
    obtain ⟨B, C, h1, CS, h2, h3⟩ := hk b _ hg
    exact ⟨B, C, CS, h1, h2, fun j V hV => by simp [World.cell?, h3, hV]⟩
  · rename_i cs' t sz hg
    cases e
    obtain ⟨B, C, h1, CS, arr, h2, h3, h4, h5, h6, h7⟩ := hk b _ hg
    refine ⟨B, C, CS, h1, h2, fun j V hV => ?_⟩
    have hj := (List.getElem?_eq_some_iff.1 hV).1
    rw [← h7, List.getElem?_take, if_pos hj] at hV
    simp [World.cell?, h3]
    simpa using hV
  · rename_i cs' hg
    cases e
    obtain ⟨B, C, h1, CS, t, f, h2, h3⟩ := hk b _ hg
    exact ⟨B, C, CS, h1, h2, fun j V hV => by simp [World.cell?, h3, hV]⟩
  · cases e
def HD (P : Program) (t : TypeId) (cs : List Value) (off : Nat) : Option Value := match eU P t with
  | some false => nth cs off
  | some true => match bA P t with
    | some n => match lK off n cs with
      | some xs => some (.agg ⟨xs⟩)
      | none => none
    | none => none
  | none => none
def ald (P : Program) (h : Heap) (t : TypeId) (v : Value) : Option Value := match v with
  | .pointer (some ⟨b, o, none⟩) => match tS h b with
    | some cs => HD P t cs o
    | none => none
  | _ => none
theorem aEj {b o : Nat} {V : Value} {x : Nat × Nat × Nat} (hb : ρ b = some x) (e : rv ρ (.pointer (some ⟨b, o, none⟩)) = some V) : V = .pointer (some ⟨x.1, x.2.2 + o, none⟩) := by
  unfold rv at e
  rw [hb] at e
  cases e; rfl
theorem DW (hk : nX ρ h w) {t : TypeId} {u U : Value} (hu : rv ρ u = some U) (e : ald P h t u = some v) : ∃ V, rv ρ v = some V ∧ (Instr.loadAt t U).run P w = .ok V w := by
  unfold ald at e
  split at e
  · rename_i b o
    split at e
    · rename_i cs hc
      obtain ⟨B, C, CS, h1, h2, h3⟩ := kS hk hc
      have hU := aEj h1 hu
      simp only [Nat.zero_add] at hU
      subst hU
      unfold HD at e
      split at e
      · rename_i ha
        rw [mF] at e
        obtain ⟨V, g1, g2⟩ := nN h2 o v e
        exact ⟨V, g2, fB ha (h3 o V g1)⟩
      · rename_i ha
        split at e
        · rename_i n hn
          split at e
          · rename_i xs hx
            cases e
            obtain ⟨XS, g1, g2, g3⟩ := mN h2 hx
            refine ⟨.agg ⟨XS⟩, by simp [rv, g1], ?_⟩
            exact jV XS ha (by rw [g2]; exact hn) fun j V hV => by rw [add_lit]; exact h3 _ _ (g3 j V hV)
          · cases e
        · cases e
      · cases e
    · cases e
  · cases e
theorem YK {t : TypeId} {CS : List Value} {cs : List Value} {off : Nat} (hc : rvs ρ cs = some CS) (e : HD P t cs off = some v) : ∃ V, rv ρ v = some V ∧ (part t ⟨CS⟩ off).run P w = .ok V w := by
  unfold HD at e
  split at e
  · rename_i ha
    rw [mF] at e
    obtain ⟨V, g1, g2⟩ := nN hc off v e
    exact ⟨V, g2, by simp [part, cI ha, g1]⟩
  · rename_i ha
    split at e
    · rename_i n hn
      split at e
      · rename_i xs hx
        cases e
        obtain ⟨XS, g1, g2, g3⟩ := mN hc hx
        refine ⟨.agg ⟨XS⟩, by simp [rv, g1], ?_⟩
        have : (CS.drop off).take n = XS := by
          apply List.ext_getElem?
          intro j
          rw [List.getElem?_take]
          by_cases hj : j < n
          · rw [if_pos (by omega), List.getElem?_drop]
            have : XS[j]? = some XS[j] := List.getElem?_eq_getElem (by omega)
            rw [this]; exact g3 _ _ this
          · rw [if_neg (by omega), List.getElem?_eq_none (by omega)]
        simp [part, cI ha, Go.Vcg.run_sizeOf hn, this]
      · cases e
    · cases e
  · cases e
def aEn (P : Program) (op : BinOp) (t : TypeId) (x y : Operand) (u v : Value) : Option Value := match gW u with
  | true => match gW v with
    | true => match mS P (do eqGuard op t x y u v; binOp op t u v) with
      | some r => match flat r with
        | true => some r
        | false => none
      | none => none
    | false => none
  | false => none
theorem lZ {b o n c : Nat} {V : Value} (e : rv ρ (.slice (some ⟨b, o, none⟩) n c) = some V) : ∃ A C, V = .slice (some A) n C := by
  unfold rv at e
  split at e
  · split at e
    · cases e; exact ⟨_, _, rfl⟩
    · split at e
      · cases e; exact ⟨_, _, rfl⟩
      · cases e
  · cases e
theorem fM {b o : Nat} {V : Value} (e : rv ρ (.pointer (some ⟨b, o, none⟩)) = some V) : ∃ A, V = .pointer (some A) := by
  unfold rv at e
  split at e
  · cases e; exact ⟨_, rfl⟩
  · cases e
theorem iI {b : Nat} {V : Value} (e : rv ρ (.map (some b)) = some V) : ∃ B C O, ρ b = some (B, C, O) ∧ V = .map (some B) := by
  unfold rv at e
  split at e
  · rename_i B C O hb; cases e; exact ⟨B, C, O, hb, rfl⟩
  · cases e
theorem rW {f : FuncId} {p q : Array Value} {V : Value} (e : rv ρ (.func (.func f) p q) = some V) : ∃ X Y, rvs ρ p.toList = some X ∧ rvs ρ q.toList = some Y ∧ V = .func (.func f) ⟨X⟩ ⟨Y⟩ := by
  obtain ⟨p⟩ := p
  obtain ⟨q⟩ := q
  unfold rv at e
  split at e
  · rename_i X Y h1 h2; cases e; exact ⟨X, Y, h1, h2, rfl⟩
  · cases e
theorem HY {t : TypeId} {u V : Value} (e : rv ρ (.iface t u) = some V) : ∃ U, rv ρ u = some U ∧ V = .iface t U := by
  unfold rv at e
  split at e
  · rename_i U h1; cases e; exact ⟨U, h1, rfl⟩
  · cases e
theorem bU {V : Value} (e : rv ρ v = some V) (hv : flat v = true) : V = v := by rw [gZ hv] at e; cases e; rfl
theorem qW {p : Array Value} {V : Value} (e : rv ρ (.agg p) = some V) : ∃ X, rvs ρ p.toList = some X ∧ V = .agg ⟨X⟩ := by
  obtain ⟨p⟩ := p
  unfold rv at e
  split at e
  · rename_i X h1; cases e; exact ⟨X, h1, rfl⟩
  · cases e
theorem HX {p : Array Value} {V : Value} (e : rv ρ (.tuple p) = some V) : ∃ X, rvs ρ p.toList = some X ∧ V = .tuple ⟨X⟩ := by
  obtain ⟨p⟩ := p
  unfold rv at e
  split at e
  · rename_i X h1; cases e; exact ⟨X, h1, rfl⟩
  · cases e
theorem OR {op : BinOp} {t t2 : TypeId} {x y : Operand} {u v r : Value} {ds : Option Nat} {ty : TypeId} {pos : String} {af : Array Edge} {gd : Option (Nat × Bool)} (hu : rv ρ u = some (a.eval x)) (hv : rv ρ v = some (a.eval y)) (e : aEn P op t x y u v = some r) :
    Yes P ρ a w ⟨ds, .binOp op t x y t2, ty, pos, af, gd⟩ r := by
  unfold aEn at e
  split at e
  · rename_i h1
    split at e
    · rename_i h2
      split at e
      · rename_i r' hr
        split at e
        · rename_i hf
          cases e
          refine ⟨r, gZ hf, ?_⟩
          have e1 := eP h1 hu
          have e2 := eP h2 hv
          have := oS hr w
          simp only [execOp, e1, e2]
          simp only [Sem.run_bind] at this ⊢
          rw [this]
          rfl
        · cases e
      · cases e
    · cases e
  · cases e
def SI (P : Program) (t : TypeId) (u v : Value) : Bool := match P.underlying t with
  | some (.pointer _) => match u, v with
    | .pointer (some ⟨_, _, none⟩), .pointer none => true
    | .pointer none, .pointer (some ⟨_, _, none⟩) => true
    | _, _ => false
  | some (.slice _) => match u, v with
    | .slice (some ⟨_, _, none⟩) _ _, .slice none _ _ => true
    | _, _ => false
  | some (.map _ _) => match u, v with
    | .map (some _), .map none => true
    | _, _ => false
  | some (.func _ _ _) => match u, v with
    | .func (.func _) _ _, .nilFunc => true
    | _, _ => false
  | some (.interface _) => match u, v with
    | .iface _ _, .nilIface => true
    | _, _ => false
  | _ => false
def aEl (P : Program) (op : BinOp) (t : TypeId) (u v : Value) : Option Value := match op with
  | .eql => match SI P t u v with
    | true => some (.bool false)
    | false => none
  | .neq => match SI P t u v with
    | true => some (.bool true)
    | false => none
  | _ => none
theorem uI {t : TypeId} {u v U V : Value} (hu : rv ρ u = some U) (hv : rv ρ v = some V) (e : SI P t u v = true) : (Op.equal t U V).run P w = .ok false w ∧ (∀ op x y, (eqGuard op t x y U V).run P w = .ok () w) ∧ binOp .eql t U V = (do pure (.bool (← Op.equal t U V))) ∧ binOp .neq t U V = (do pure (.bool (!(← Op.equal t U V)))) := by
  have hd : Op.maxDepth = 9999 + 1 := rfl
  unfold SI at e
  unfold Op.equal
  rw [hd]
  unfold Op.equalIn
  split at e
  · rename_i hT
    split at e
    · obtain ⟨A, rfl⟩ := fM hu
      cases bU hv rfl
      exact ⟨by simp [run_underlying hT], fun op x y => by cases op <;> rfl, rfl, rfl⟩
    · obtain ⟨A, rfl⟩ := fM hv
      cases bU hu rfl
      exact ⟨by simp [run_underlying hT], fun op x y => by cases op <;> rfl, rfl, rfl⟩
    · cases e
  · rename_i hT
    split at e
    · obtain ⟨A, C, rfl⟩ := lZ hu
      cases bU hv rfl
      exact ⟨by simp [run_underlying hT], fun op x y => by cases op <;> rfl, rfl, rfl⟩
    · cases e
  · rename_i hT
    split at e
    · obtain ⟨A, C, O, _, rfl⟩ := iI hu
      cases bU hv rfl
      exact ⟨by simp [run_underlying hT], fun op x y => by cases op <;> rfl, rfl, rfl⟩
    · cases e
  · rename_i hT
    split at e
    · obtain ⟨X, Y, _, _, rfl⟩ := rW hu
      cases bU hv rfl
      exact ⟨by simp [run_underlying hT], fun op x y => by cases op <;> rfl, rfl, rfl⟩
    · cases e
  · rename_i hT
    split at e
    · obtain ⟨X, _, rfl⟩ := HY hu
      cases bU hv rfl
      exact ⟨by simp [run_underlying hT], fun op x y => by cases op <;> rfl, rfl, rfl⟩
    · cases e
  · cases e
theorem OL {op : BinOp} {t t2 : TypeId} {x y : Operand} {u v r : Value} {ds : Option Nat} {ty : TypeId} {pos : String} {af : Array Edge} {gd : Option (Nat × Bool)} (hu : rv ρ u = some (a.eval x)) (hv : rv ρ v = some (a.eval y)) (e : aEl P op t u v = some r) :
    Yes P ρ a w ⟨ds, .binOp op t x y t2, ty, pos, af, gd⟩ r := by
  unfold aEl at e
  split at e
  · split at e
    · rename_i hT
      cases e
      obtain ⟨h1, h2, h3, h4⟩ := uI (w := w) hu hv hT
      exact ⟨_, gZ rfl, by simp [execOp, h2, h3, h1]⟩
    · cases e
  · split at e
    · rename_i hT
      cases e
      obtain ⟨h1, h2, h3, h4⟩ := uI (w := w) hu hv hT
      exact ⟨_, gZ rfl, by simp [execOp, h2, h4, h1]⟩
    · cases e
  · cases e
theorem iT {b o n c : Nat} {V : Value} (e : rv ρ (.slice (some ⟨b, o, none⟩) n c) = some V) : ∃ B C O, ρ b = some (B, C, O) ∧ ((c < dX ∧ V = .slice (some ⟨B, O + o, none⟩) n c) ∨ (dX ≤ c ∧ n + (c - dX) ≤ C ∧ V = .slice (some ⟨B, O + o, none⟩) n (C - (c - dX)))) := by
  unfold rv at e
  split at e
  · rename_i B C O hb
    split at e
    · rename_i hc; cases e; exact ⟨B, C, O, hb, .inl ⟨hc, rfl⟩⟩
    · rename_i hc
      split at e
      · rename_i hn; cases e; exact ⟨B, C, O, hb, .inr ⟨by omega, hn, rfl⟩⟩
      · cases e
  · cases e
end
end
section
open Go.RowKit Go.MapKept
open Go.Vcg (jP jN add_lit bA cH dF run_sizeOf)
def ext (ρ : Env) (b : Nat) (x : Nat × Nat × Nat) : Env := fun c => bif Nat.beq c b then some x else ρ c
theorem eT {ρ : Env} {b : Nat} {x : Nat × Nat × Nat} : ext ρ b x b = some x := by simp [ext]
theorem lD {ρ : Env} {b c : Nat} {x : Nat × Nat × Nat} (h : c ≠ b) : ext ρ b x c = ρ c := by simp [ext, jN h]
theorem iF {ρ : Env} {b : Nat} {x : Nat × Nat × Nat} (h : ρ b = none) : ELe ρ (ext ρ b x) := fun c y e => by
  by_cases hc : c = b
  · subst hc; rw [h] at e; cases e
  · rw [lD hc]; exact e
structure jG (ρ : Env) (nx b nx' : Nat) : Prop where
  free : ρ b = none
  le : nx ≤ nx'
  lt : b < nx'
  small : nx' ≤ 1048576
def Pr (h h' : Heap) : Prop := h'.mw ≤ h.mw ∧ ∀ b, b < h'.mw → cL h' b = cL h b
theorem Pr.refl (h : Heap) : Pr h h := ⟨Nat.le_refl _, fun _ _ => rfl⟩
theorem Pr.trans {h h' h'' : Heap} (p : Pr h h') (q : Pr h' h'') : Pr h h'' := ⟨Nat.le_trans q.1 p.1, fun b hb => (q.2 b hb).trans (p.2 b (Nat.lt_of_lt_of_le hb q.1))⟩
theorem TM (h : Heap) (b : Nat) (o : Option kD) : (eL h b o).mw ≤ h.mw ∧ (eL h b o).mw ≤ b := by
  show (bif Nat.blt b h.mw then b else h.mw) ≤ h.mw ∧ (bif Nat.blt b h.mw then b else h.mw) ≤ b
  cases hb : Nat.blt b h.mw with
  | true => have : b < h.mw := by simp [Nat.blt] at hb; omega
            simp; omega
  | false =>
    have : h.mw ≤ b := Nat.le_of_not_lt fun hlt => by
      rw [show Nat.blt b h.mw = true from (by rw [Nat.blt, Nat.ble_eq]; exact hlt)] at hb; cases hb
    simpa using this
theorem Pr.set {h : Heap} {b : Nat} (hb : b < 1048576) (o : Option kD) : Pr h (eL h b o) := ⟨(TM h b o).1, fun c hc => bC hb (by have := (TM h b o).2; omega)⟩
structure Fr (B : Nat) (w w' : World) : Prop where
  os : w'.os = w.os
  tape : w'.tape = w.tape
  output : w'.output = w.output
  size : w.heap.size ≤ w'.heap.size
  block : ∀ b, b < w.heap.size → b ≠ B → w'.heap[b]? = w.heap[b]?
structure Fr2 (B B2 : Nat) (w w' : World) : Prop where
  os : w'.os = w.os
  tape : w'.tape = w.tape
  output : w'.output = w.output
  size : w.heap.size ≤ w'.heap.size
  block : ∀ b, b < w.heap.size → b ≠ B → b ≠ B2 → w'.heap[b]? = w.heap[b]?
theorem Fr.two {B : Nat} {w w' : World} (h : Fr B w w') : Fr2 B B w w' := ⟨h.os, h.tape, h.output, h.size, fun b hb h1 _ => h.block b hb h1⟩
theorem kC.lt {ρ : Env} {C : Nat} {o : kD} {w : World} {B : Nat} (h : kC ρ C o w.heap[B]?) : B < w.heap.size := by
  cases o with
  | cells cs t r => obtain ⟨_, _, h2⟩ := h; exact (Array.getElem?_eq_some_iff.1 h2).1
  | row cs t sz => obtain ⟨_, _, _, h2, _⟩ := h; exact (Array.getElem?_eq_some_iff.1 h2).1
  | map es => obtain ⟨_, _, h2⟩ := h; exact (Array.getElem?_eq_some_iff.1 h2).1
  | tab cs => obtain ⟨_, _, _, _, h2⟩ := h; exact (Array.getElem?_eq_some_iff.1 h2).1
section
variable {w0 w w' : World} {ρ : Env} {h : Heap} {nx : Nat}
theorem Fr.aT (r : Rel w0 ρ h nx w) {B : Nat} (fr : Fr B w w') (hB0 : w0.heap.size ≤ B) : jP [] w0 w' :=
  ⟨fr.os.trans r.aT.os, fr.tape.trans r.aT.tape, fr.output.trans r.aT.output, Nat.le_trans r.aT.size fr.size, fun b hb _ => by
    rw [fr.block b (Nat.lt_of_lt_of_le hb r.aT.size) (by omega)]; exact r.aT.block b hb (by simp)⟩
theorem Rel.aEq {b0 nx' : Nat} (r : Rel w0 ρ h nx w) (hf : jG ρ nx b0 nx') {B B2 C : Nat} {o : kD} (hro : o.ro = false) (fr : Fr2 B B2 w w') (hB0 : w0.heap.size ≤ B) (hB2 : w0.heap.size ≤ B2)
    (hfree2 : ∀ c o C', cL h c = some o → ρ c = some (B2, C', 0) → False) (hfree : ∀ c o C', cL h c = some o → ρ c = some (B, C', 0) → False) (ho : kC (ext ρ b0 (B, C, 0)) C o w'.heap[B]?) : Rel w0 (ext ρ b0 (B, C, 0)) (eL h b0 (some o)) nx' w' :=
  have hbs : b0 < 1048576 := Nat.lt_of_lt_of_le hf.lt hf.small
  { 
  ok := fun b o' e => by
    by_cases hb : b = b0
    · subst hb; rw [cV hbs] at e; cases e; exact ⟨B, C, eT, ho⟩
    · rw [bC hbs hb] at e
      obtain ⟨B', C', h1, h2⟩ := r.ok b o' e
      have hne : B' ≠ B := fun e' => hfree b o' C' e (by rw [← e']; exact h1)
      refine ⟨B', C', by rw [lD hb]; exact h1, ?_⟩
      have hne2 : B' ≠ B2 := fun e' => hfree2 b o' C' e (by rw [← e']; exact h1)
      rw [fr.block B' h2.lt hne hne2]
      exact h2.mono (iF hf.free)
  inj := fun b b' o1 o2 B' C' C'' e e' h1 h2 => by
    by_cases hb : b = b0
    · by_cases hb' : b' = b0
      · rw [hb, hb']
      · subst hb
        rw [eT] at h1; cases h1
        rw [bC hbs hb'] at e'
        rw [lD hb'] at h2
        exact (hfree b' o2 C'' e' h2).elim
    · rw [bC hbs hb] at e
      rw [lD hb] at h1
      by_cases hb' : b' = b0
      · subst hb'
        rw [eT] at h2; cases h2
        exact (hfree b o1 C' e h1).elim
      · rw [bC hbs hb'] at e'
        rw [lD hb'] at h2
        exact r.inj b b' o1 o2 B' C' C'' e e' h1 h2
  new := fun b hb => by rw [lD (by have := hf.lt; omega)]; exact r.new b (by have := hf.le; omega)
  small := hf.small
  own := fun b o' e hr B' C' h1 => by
    by_cases hb : b = b0
    · subst hb; rw [eT] at h1; cases h1; exact hB0
    · rw [bC hbs hb] at e
      rw [lD hb] at h1
      exact r.own b o' e hr B' C' h1
  old := fun b o' e hr B' C' h1 => by
    by_cases hb : b = b0
    · subst hb; rw [cV hbs] at e; cases e; rw [hro] at hr; cases hr
    · rw [bC hbs hb] at e
      rw [lD hb] at h1
      exact r.old b o' e hr B' C' h1
  aT := ⟨fr.os.trans r.aT.os, fr.tape.trans r.aT.tape, fr.output.trans r.aT.output, Nat.le_trans r.aT.size fr.size, fun b hb _ => by
    rw [fr.block b (Nat.lt_of_lt_of_le hb r.aT.size) (by omega) (by omega)]; exact r.aT.block b hb (by simp)⟩ }
theorem Rel.put {b0 nx' : Nat} (r : Rel w0 ρ h nx w) (hf : jG ρ nx b0 nx') {B C : Nat} {o : kD} (hro : o.ro = false) (fr : Fr B w w') (hB0 : w0.heap.size ≤ B)
    (hfree : ∀ c o C', cL h c = some o → ρ c = some (B, C', 0) → False) (ho : kC (ext ρ b0 (B, C, 0)) C o w'.heap[B]?) : Rel w0 (ext ρ b0 (B, C, 0)) (eL h b0 (some o)) nx' w' :=
  r.aEq hf hro fr.two hB0 hB0 hfree hfree ho
theorem Rel.drop (r : Rel w0 ρ h nx w) {b : Nat} (hb : b < 1048576) : Rel w0 ρ (eL h b none) nx w := by
  have key : ∀ c o, cL (eL h b none) c = some o → cL h c = some o := fun c o e => by
    by_cases hc : c = b
    · subst hc; rw [cV hb] at e; cases e
    · rw [bC hb hc] at e; exact e
  exact ⟨fun c o e => r.ok c o (key c o e), fun c c' o o' B C C' e e' => r.inj c c' o o' B C C' (key _ _ e) (key _ _ e'), r.new, r.small, fun c o e => r.own c o (key _ _ e), fun c o e => r.old c o (key _ _ e), r.aT⟩
theorem Rel.upd (r : Rel w0 ρ h nx w) {b B C : Nat} {o o' : kD} (hb : cL h b = some o) (hro : o.ro = false) (hro' : o'.ro = false) (hB : ρ b = some (B, C, 0)) (fr : Fr B w w') (ho : kC ρ C o' w'.heap[B]?) : Rel w0 ρ (eL h b (some o')) nx w' where
  ok := fun c o1 e => by
    by_cases hc : c = b
    · subst hc; rw [cV (cJ hb)] at e; cases e; exact ⟨B, C, hB, ho⟩
    · rw [bC (cJ hb) hc] at e
      obtain ⟨B', C', h1, h2⟩ := r.ok c o1 e
      have hne : B' ≠ B := fun e' => hc (r.inj c b o1 o B' C' C e hb h1 (by rw [e']; exact hB))
      exact ⟨B', C', h1, by rw [fr.block B' h2.lt hne]; exact h2⟩
  inj := fun c c' o1 o2 B' C' C'' e e' h1 h2 => by
    have key : ∀ c o1, cL (eL h b (some o')) c = some o1 → ∃ o2, cL h c = some o2 := fun c o1 e => by
      by_cases hc : c = b
      · subst hc; exact ⟨o, hb⟩
      · rw [bC (cJ hb) hc] at e; exact ⟨o1, e⟩
    obtain ⟨p, hp⟩ := key _ _ e
    obtain ⟨q, hq⟩ := key _ _ e'
    exact r.inj c c' p q B' C' C'' hp hq h1 h2
  new := r.new
  small := r.small
  own := fun c o1 e hr B' C' h1 => by
    by_cases hc : c = b
    · subst hc; exact r.own c o hb hro B' C' h1
    · rw [bC (cJ hb) hc] at e; exact r.own c o1 e hr B' C' h1
  old := fun c o1 e hr B' C' h1 => by
    by_cases hc : c = b
    · subst hc; rw [cV (cJ hb)] at e; cases e; rw [hro'] at hr; cases hr
    · rw [bC (cJ hb) hc] at e; exact r.old c o1 e hr B' C' h1
  aT := fr.aT r (r.own b o hb hro B C hB)
theorem Rel.after (r : Rel w0 ρ h nx w) (fr : Fr w.heap.size w w') : Rel w0 ρ h nx w' :=
  ⟨fun b o e => by
    obtain ⟨B, C, h1, h2⟩ := r.ok b o e
    exact ⟨B, C, h1, by rw [fr.block B h2.lt (by have := h2.lt; omega)]; exact h2⟩, r.inj, r.new, r.small, r.own, r.old, fr.aT r r.aT.size⟩
theorem Rel.name {b0 nx' : Nat} (r : Rel w0 ρ h nx w) (hf : jG ρ nx b0 nx') (x : Nat × Nat × Nat) : Rel w0 (ext ρ b0 x) h nx' w := by
  have hle := iF (x := x) hf.free
  have key : ∀ b o, cL h b = some o → ext ρ b0 x b = ρ b := fun b o e => lD (fun hb => by
    obtain ⟨B, C, h1, _⟩ := r.ok b o e
    rw [hb, hf.free] at h1; cases h1)
  exact ⟨fun b o e => by
    obtain ⟨B, C, h1, h2⟩ := r.ok b o e
    exact ⟨B, C, hle _ _ h1, h2.mono hle⟩, fun b b' o o' B C C' e e' h1 h2 => r.inj b b' o o' B C C' e e' (by rw [← key b o e]; exact h1) (by rw [← key b' o' e']; exact h2),
    fun b hb => by rw [lD (by have := hf.lt; omega)]; exact r.new b (by have := hf.le; omega), hf.small, fun b o e hr B C h1 => r.own b o e hr B C (by rw [← key b o e]; exact h1), fun b o e hr B C h1 => r.old b o e hr B C (by rw [← key b o e]; exact h1), r.aT⟩
theorem LH (w : World) (o : Obj) : Fr w.heap.size w (w.alloc o) := ⟨rfl, rfl, rfl, by simp, fun b hb _ => Below.heap_alloc w _ b hb⟩
theorem AJ (w : World) (o : Obj) : Fr w.heap.size w (w.drew.alloc o) := ⟨rfl, rfl, rfl, by simp, fun b hb _ => Below.heap_alloc w.drew _ b (by simpa using hb)⟩
theorem Rel.yC (r : Rel w0 ρ h nx w) : ∀ c o C', cL h c = some o → ρ c = some (w.heap.size, C', 0) → False := fun c o C' e h1 => by
  obtain ⟨B, C, h2, h3⟩ := r.ok c o e
  rw [h1] at h2; cases h2
  have := h3.lt
  omega
theorem Rel.cells {b0 nx' : Nat} (r : Rel w0 ρ h nx w) (hf : jG ρ nx b0 nx') {cs CS : List Value} (hc : rvs ρ cs = some CS) (t : TypeId) :
    Rel w0 (ext ρ b0 (w.heap.size, 0, 0)) (eL h b0 (some (.cells cs t false))) nx' (w.alloc (.cells CS.toArray t)) :=
  r.put hf rfl (LH w _) r.aT.size r.yC ⟨CS, eJ (iF hf.free) hc, heap_alloc_new w _⟩
theorem Rel.row {b0 nx' : Nat} (r : Rel w0 ρ h nx w) (hf : jG ρ nx b0 nx') {cs CS : List Value} (hc : rvs ρ cs = some CS) (t : TypeId) {sz C : Nat} {arr : Array Value} (h1 : arr.size = C * sz) (h2 : C ≤ maxLen) (h3 : CS.length ≤ arr.size) (h4 : arr.toList.take CS.length = CS) :
    Rel w0 (ext ρ b0 (w.heap.size, C, 0)) (eL h b0 (some (.row cs t sz))) nx' (w.drew.alloc (.cells arr t)) :=
  r.put hf rfl (AJ w _) r.aT.size r.yC ⟨CS, arr, eJ (iF hf.free) hc, by
    have := heap_alloc_new w.drew (.cells arr t); simpa using this, h1, h2, h3, h4⟩
end
theorem NH {ρ : Env} {v V : Value} (h : rv ρ v = some V) : V.oneCell' = v.oneCell' := by
  cases v with
  | bool b => cases bU h rfl; rfl
  | int k n => cases bU h rfl; rfl
  | float k n => cases bU h rfl; rfl
  | complex _ _ _ => simp [rv] at h
  | chan _ => simp [rv] at h
  | string s => cases bU h rfl; rfl
  | pointer p =>
    match p with
    | none => cases bU h rfl; rfl
    | some ⟨b, o, none⟩ => obtain ⟨A, rfl⟩ := fM h; rfl
    | some ⟨b, o, some _⟩ => simp [rv] at h
  | slice p n c =>
    match p with
    | none => cases bU h rfl; rfl
    | some ⟨b, o, none⟩ => obtain ⟨A, C, rfl⟩ := lZ h; rfl
    | some ⟨b, o, some _⟩ => simp [rv] at h
  | map m =>
    cases m with
    | none => cases bU h rfl; rfl
    | some b => obtain ⟨_, _, _, _, rfl⟩ := iI h; rfl
  | func f p q =>
    cases f with
    | func f => obtain ⟨_, _, _, _, rfl⟩ := rW h; rfl
    | method _ => simp [rv] at h
    | methodOf _ _ => simp [rv] at h
    | via _ _ _ _ => simp [rv] at h
    | yield _ => simp [rv] at h
  | nilFunc => cases bU h rfl; rfl
  | iface t v => obtain ⟨_, _, rfl⟩ := HY h; rfl
  | nilIface => cases bU h rfl; rfl
  | agg p => obtain ⟨_, _, rfl⟩ := qW h; rfl
  | tuple p => obtain ⟨_, _, rfl⟩ := HX h; rfl
theorem EI {ρ : Env} : ∀ {l L : List Value}, rvs ρ l = some L → l.all (·.oneCell') = true → ∀ u ∈ L, u.oneCell' = true
  | [], L, h, _, u, hu => by simp [rvs] at h; subst h; cases hu
  | v :: r, L, h, ha, u, hu => by
    unfold rvs at h
    split at h
    · rename_i V R hv hr
      cases h
      simp only [List.all_cons, Bool.and_eq_true] at ha
      rcases List.mem_cons.1 hu with rfl | hu
      · rw [NH hv]; exact ha.1
      · exact EI hr ha.2 u hu
    · cases h
def cellsOf : Value → List Value
  | .agg ⟨l⟩ => l
  | v => [v]
theorem mP {ρ : Env} {v V : Value} (h : rv ρ v = some V) (h1 : (cellsOf v).all (·.oneCell') = true) : rvs ρ (cellsOf v) = some V.cells.toList := by
  cases v with
  | agg p => obtain ⟨X, hx, rfl⟩ := qW h; simpa [cellsOf, Value.cells] using hx
  | tuple p => simp [cellsOf, Value.oneCell'] at h1
  | _ =>
    have h2 := NH h
    have h3 : V.cells = #[V] := Go.Vcg.VV (by rw [h2]; rfl)
    simp [cellsOf, rvs, h, h3]
end
end Go.Rex
namespace Go.Proofs.YtoclmkdfcafhfaaGreatDoor
end Go.Proofs.YtoclmkdfcafhfaaGreatDoor
