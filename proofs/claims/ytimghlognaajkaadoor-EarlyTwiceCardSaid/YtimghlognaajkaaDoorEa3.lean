/- Closed runs: the law's examples of the specification. No statement of the seat is proved here. -/
import Derived.Test.YtimghlognaajkaaDoorEa1
import Derived.Test.YtimghlognaajkaaDoorEa2
set_option maxRecDepth 20000
namespace Go.Proofs.YtimghlognaajkaaDoor
open Go.Rex Go.RowKit Go.Vcg
set_option maxRecDepth 20000
theorem lives_run : runF Tryd.prog 1000 memoN T1 400 7 [] = some (.bool true) := by kernel_rfl
def memoL : Memo := fun f vs => match Nat.beq f 7 with
  | true => match vs with
    | [] => some (.bool true)
    | _ :: _ => none
  | false => memoN f vs
theorem memoL_ok {w : World} (h : TabW w) : MemoOk Tryd.prog w memoL := fun f vs v e => by
  unfold memoL at e
  split at e
  · rename_i hf
    have hf := Nat.eq_of_beq_eq_true hf
    subst hf
    split at e
    · cases e
      exact ⟨rfl, rfl, fun w' hk => runF_sound mixed (memoN_ok (h.keep hk)) (by decide) (h.keep hk).tab lives_run⟩
    · cases e
  · exact memoN_ok h f vs v e
/-- the law's code behind its first two statements -/
def restOf (f : Option Func) : Code := match f with
  | some fn => match fn.body with
    | some (.seq _ (.seq _ r)) => r
    | _ => .skip
  | none => .skip
end Go.Proofs.YtimghlognaajkaaDoor
