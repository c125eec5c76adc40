/- Arithmetic of package num, continued. -/
import Derived.Test.YtmclpmhgeikmjaaDoorNum3
namespace Go.Proofs.YtmclpmhgeikmjaaDoor
open Go.RowKit Go.Vcg
def negF (a : V) : V := twoF subG (ofF 0) a
def lessF (a b : V) : Bool × Bool := if wholeF a = true ∧ wholeF b = true then (decide (a.n < b.n), true) else (false, false)
attribute [local irreducible] G GC GQ GA GAop Calls IntKind.wrap Int.decLt Int.decLe
end Go.Proofs.YtmclpmhgeikmjaaDoor
