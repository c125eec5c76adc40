/- More rules: slicing of slices and strings. No statement of the seat is proved here. -/
import Derived.Test.YtmihpkdhfomcgaaGreatDoorVf
set_option maxRecDepth 20000
namespace Go.Vcg
open Go.RowKit
section
variable {P : Program} {X : Ctx} {ops : Array Oper} {Q : Exit → Act → World → Prop} {rest : List Oper} {μ μr : Mem} {l : Slots} {L Lr : List Bk} {a : Act} {w : World} {o : Oper} {d fuel i : Nat} {listed : Array Bool}
variable {ty : TypeId} {pos : String} {af : Array Edge} {gd : Option (Nat × Bool)}

theorem run_bound {k : Nat} {y : Nat} {c : BoundsCode} (h : k ≤ y) (w : World) : (Instr.sliceBound (.int .i64 (k : Int)) y c).run P w = .ok k w := by
  have : (0 : Int) ≤ k ∧ (k : Int) ≤ y := by omega
  simp [Instr.sliceBound, asIntOf, this]
/-- the same for strings -/
theorem v_str_hi {p q : Operand} {t : TypeId} {b : ByteArray} {j : Int} {ds : Option Nat} (k : Nat) (ht : P.underlying t = some .string) (hx : ev l p = some (.string b)) (hq : ev l q = some (.int .i64 j)) (hj : j = (k : Int)) (hk : k ≤ b.size) :
    Val P μ l L ⟨ds, .slice t p none (some q) none, ty, pos, af, gd⟩ (.string (b.extract 0 k)) := fun a w hr => by
  have e0 := hr.eval hx
  have e1 := hr.eval hq
  generalize a.eval = ρ at e0 e1
  subst hj
  simp [execOp, e0, e1, Instr.sliceAt, Instr.slice, run_underlying ht, Instr.sliceBounds, run_bound hk]
theorem v_str_lo {p q : Operand} {t : TypeId} {b : ByteArray} {j : Int} {ds : Option Nat} (k : Nat) (ht : P.underlying t = some .string) (hx : ev l p = some (.string b)) (hq : ev l q = some (.int .i64 j)) (hj : j = (k : Int)) (hk : k ≤ b.size) :
    Val P μ l L ⟨ds, .slice t p (some q) none none, ty, pos, af, gd⟩ (.string (b.extract k b.size)) := fun a w hr => by
  have e0 := hr.eval hx
  have e1 := hr.eval hq
  generalize a.eval = ρ at e0 e1
  subst hj
  simp [execOp, e0, e1, Instr.sliceAt, Instr.slice, run_underlying ht, Instr.sliceBounds, run_bound hk]
theorem v_str_both {p q r : Operand} {t : TypeId} {b : ByteArray} {j i : Int} {ds : Option Nat} (k m : Nat) (ht : P.underlying t = some .string) (hx : ev l p = some (.string b)) (hq : ev l q = some (.int .i64 j)) (hj : j = (k : Int)) (hr' : ev l r = some (.int .i64 i)) (hi : i = (m : Int)) (hk : k ≤ m) (hm : m ≤ b.size) :
    Val P μ l L ⟨ds, .slice t p (some q) (some r) none, ty, pos, af, gd⟩ (.string (b.extract k m)) := fun a w hr => by
  have e0 := hr.eval hx
  have e1 := hr.eval hq
  have e2 := hr.eval hr'
  generalize a.eval = ρ at e0 e1 e2
  subst hj hi
  simp [execOp, e0, e1, e2, Instr.sliceAt, Instr.slice, run_underlying ht, Instr.sliceBounds, run_bound hk, run_bound hm]

theorem Sl.take {α : Type} {enc : α → List Value} {s n k : Nat} {A : Option Addr} {xs : List α} (h : Sl enc s μ A n xs) (hk : k ≤ n) : Sl enc s μ A k (xs.take k) := by
  refine ⟨by simp [h.1]; omega, fun hp => ?_⟩
  obtain ⟨ad, e, hc⟩ := h.2 (by omega)
  exact ⟨ad, e, fun i x hi => hc i x (by rw [List.getElem?_take] at hi; split at hi <;> simp_all)⟩
theorem Sl.drop {α : Type} {enc : α → List Value} {s n k c : Nat} {A : Option Addr} {xs : List α} (h : Sl enc s μ A n xs) (hk : k ≤ n) (hc : n ≤ c) : Sl enc s μ (if c = k then A else A.map (·.add (k * s))) (n - k) (xs.drop k) := by
  refine ⟨by simp [h.1], fun hp => ?_⟩
  obtain ⟨ad, e, hc⟩ := h.2 (by omega)
  rw [if_neg (by omega), e]
  refine ⟨_, rfl, fun i x hi => ?_⟩
  have := hc (k + i) x (by simpa using hi)
  rw [Nat.add_mul, ← add_add'] at this
  exact this
theorem Bk.cap {A : Option Addr} {n c e s m : Nat} {xs : List Value} (h : Bk.sh (.inr ⟨.slice A n c, e, s, m, xs⟩) μ) : n ≤ c := by
  rcases h.2 with ⟨h1, _⟩ | ⟨g, cap, cur, h1, _, h3, _⟩
  · simp at h1; omega
  · simp at h1 h3; omega
end
end Go.Vcg
