/- Numbers of the reference: Of, blank, worth, Count: what they compute, and their contracts. -/
import Derived.Test.YtlhmgadmolojmaaDoorNum2
set_option maxRecDepth 20000
namespace Go.Proofs.YtlhmgadmolojmaaDoor
open Go.RowKit Go.Vcg

def blankF (c : Int) : Bool := decide (c = 9) || decide (c = 10) || decide (c = 13) || decide (c = 32)
theorem blank_cut (b : UInt8) : blankF b.toNat = cutB.contains b := by
  have h : ∀ k : UInt8, ((b.toNat : Int) = (k.toNat : Int)) ↔ b = k := fun k => by
    constructor
    · intro e; exact UInt8.toNat_inj.1 (by omega)
    · rintro rfl; rfl
  have h9 := h 9; have h10 := h 10; have h13 := h 13; have h32 := h 32
  rw [show ((9 : UInt8).toNat : Int) = 9 from rfl] at h9
  rw [show ((10 : UInt8).toNat : Int) = 10 from rfl] at h10
  rw [show ((13 : UInt8).toNat : Int) = 13 from rfl] at h13
  rw [show ((32 : UInt8).toNat : Int) = 32 from rfl] at h32
  rw [Bool.eq_iff_iff]
  simp [blankF, cutB, h9, h10, h13, h32, or_assoc]
def worthF (base : Int) (c : Int) : Int := if digitF c ≥ base then -1 else digitF c
def rcountF (base : Int) : List UInt8 → Int → Option Int
  | [], n => some n
  | b :: r, n => if worthF base b.toNat < 0 then none else
    if (if n ≥ 0 then n * base + worthF base b.toNat else n) > 9007199254740992 then rcountF base r (-1) else rcountF base r (if n ≥ 0 then n * base + worthF base b.toNat else n)
def rcount2 (base : Int) (l : List UInt8) : Int × Bool := match rcountF base l 0 with
  | some n => (n, decide (l ≠ []))
  | none => (0, false)

attribute [local irreducible] G GC GQ GA GAop Calls IntKind.wrap Int.decLt Int.decLe
section
variable (w : World) (μ : Mem) (hμ : MOk μ w)
include hμ
end
end Go.Proofs.YtlhmgadmolojmaaDoor
