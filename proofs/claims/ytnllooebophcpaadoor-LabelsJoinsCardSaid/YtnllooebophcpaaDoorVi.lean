/- More rules: cutting a row in thought; lists of records of one size. No statement of the seat is proved here. -/
import Derived.Test.YtnllooebophcpaaDoorVh
set_option maxRecDepth 20000
namespace Go.Vcg
open Go.RowKit
section
variable {P : Program} {X : Ctx} {ops : Array Oper} {Q : Exit → Act → World → Prop} {rest : List Oper} {μ μr : Mem} {l : Slots} {L Lr : List Bk} {a : Act} {w : World} {o : Oper} {d fuel i : Nat} {listed : Array Bool}

end
section flat
variable {α : Type} {enc : α → List Value} {s : Nat}
end flat
end Go.Vcg
