/- A machine for closed runs, where functions defer quiet calls. No statement of the seat is proved here. -/
import Derived.Test.YtllilkcocfalmaaGreatDoorRl
set_option maxRecDepth 20000
namespace Go.Rex
open Go.RowKit
def runFQ (P : Program) (N : Nat) (qs : List FuncId) (memo : Memo) (ts : List (Nat × List Value)) (n : Nat) (f : FuncId) (vs : List Value) : Option Value := match callB P memo (exQ P N qs memo n) f vs (tabs ts) N with
  | some (v, _, _) => match flat2 v with
    | true => match flats vs with
      | true => some v
      | false => none
    | false => none
  | none => none
theorem runFQ_sound {P : Program} {w : World} {N : Nat} (hm : P.follows .mixedOrders = true) {qs : List FuncId} (hq : ∀ f ∈ qs, QuietF P f) {memo : Memo} (hme : MemoOk P w memo) (hN : N ≤ 1048576) {ts : List (Nat × List Value)} (ht : TabsOk N w ts) {n : Nat} {f : FuncId} {vs : List Value} {v : Value} (e : runFQ P N qs memo ts n f vs = some v) :
    Calls P f vs.toArray w fun e w' => e = .returned v ∧ Below w.heap.size w w' := by
  unfold runFQ at e
  split at e
  · rename_i u h2 nx2 hu
    split at e
    · rename_i hf
      split at e
      · rename_i hfs
        cases e
        obtain ⟨hr, hg⟩ := rel_start hN ht
        refine callB_ok hme (exQ_ok hm hq hme n) _ _ _ f vs vs w v h2 nx2 hu hr hg (rvs_flats hfs) _ fun ρ' V w' hev hV hr' => ?_
        have := rv_flat2_eq hf hV
        subst this
        exact ⟨rfl, hr'.keep.below⟩
      · cases e
    · cases e
  · cases e
end Go.Rex
