/- Conversions of package convert: what they compute, and their contracts (Text at a bool apart). -/
import Derived.Test.YtlhmgadmolojmaaDoorKey3
set_option maxRecDepth 20000
namespace Go.Proofs.YtlhmgadmolojmaaDoor
open Go.RowKit Go.Vcg

def whyF (v : V) : Int := if v.k = 6 then 12 else 13
def conTextF (v : V) : ByteArray × Int :=
  if v.k = 0 then (⟨#[117, 110, 100, 101, 102, 105, 110, 101, 100]⟩, 0) else if v.k = 1 then (⟨#[110, 117, 108, 108]⟩, 0) else if v.k = 2 then (if v.n ≠ 0 then ⟨#[116, 114, 117, 101]⟩ else ⟨#[102, 97, 108, 115, 101]⟩, 0)
  else if v.k = 3 ∨ v.k = 4 then (textF v, 0) else if v.k = 5 then (v.s, 0) else (⟨#[]⟩, whyF v)
def conNumF (v : V) : V × Int :=
  if v.k = 0 then (nanV, 0) else if v.k = 1 then (⟨3, 0, noS⟩, 0) else if v.k = 2 then (if v.n ≠ 0 then ⟨3, 1, noS⟩ else ⟨3, 0, noS⟩, 0)
  else if v.k = 3 ∨ v.k = 4 then (if isF v = true then v else nanV, 0) else if v.k = 5 then (readF (bl v.s), 0) else (⟨0, 0, noS⟩, whyF v)
def clipF (n most : Int) : Int := if most < 0 then 0 else if n < 0 then (if 0 < most + n then most + n else 0) else (if most < n then most else n)
attribute [local irreducible] G GC GQ GA GAop Calls IntKind.wrap Int.decLt Int.decLe bAt
section
variable (w : World) (μ : Mem) (hμ : MOk μ w)
include hμ
end
end Go.Proofs.YtlhmgadmolojmaaDoor
