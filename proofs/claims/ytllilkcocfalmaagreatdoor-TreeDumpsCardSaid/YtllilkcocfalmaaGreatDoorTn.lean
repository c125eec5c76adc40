/- Closed runs of package tree's Name; what the machine may take as known. No statement of the seat is proved here. -/
import Derived.Test.YtllilkcocfalmaaGreatDoorRl
import Derived.KernelRfl
set_option maxRecDepth 20000
namespace Go.Proofs.YtllilkcocfalmaaGreatDoor
open Go.Rex Go.RowKit Go.Vcg
set_option maxRecDepth 20000

def zz (n : Nat) : List Value := List.replicate n (.int .u8 0)
/-- the library's table of white space -/
def asp : List Value := zz 9 ++ List.replicate 5 (.int .u8 1) ++ zz 18 ++ [.int .u8 1] ++ zz 223
def T1 : List (Nat × List Value) := [(0, asp)]
def noMemo : Memo := fun _ _ => none
theorem noMemo_ok (w : World) : MemoOk Tryz.prog w noMemo := fun _ _ _ e => by cases e
theorem mixed : Tryz.prog.follows .mixedOrders = true := by kernel_rfl
theorem name_30 : runF Tryz.prog 1000 noMemo T1 400 11 [.int .i64 (.ofNat 30)] = some (.string ⟨⟨[78, 117, 109]⟩⟩) := by kernel_rfl
theorem name_34 : runF Tryz.prog 1000 noMemo T1 400 11 [.int .i64 (.ofNat 34)] = some (.string ⟨⟨[78, 97, 109, 101]⟩⟩) := by kernel_rfl
theorem name_44 : runF Tryz.prog 1000 noMemo T1 400 11 [.int .i64 (.ofNat 44)] = some (.string ⟨⟨[66, 105, 110, 97, 114, 121]⟩⟩) := by kernel_rfl
theorem name_64 : runF Tryz.prog 1000 noMemo T1 400 11 [.int .i64 (.ofNat 64)] = some (.string ⟨⟨[82, 101, 115, 116]⟩⟩) := by kernel_rfl
def nameOf (k : Nat) : Option Value := match Nat.beq k 30 with
  | true => some (.string ⟨⟨[78, 117, 109]⟩⟩)
  | false => match Nat.beq k 34 with
  | true => some (.string ⟨⟨[78, 97, 109, 101]⟩⟩)
  | false => match Nat.beq k 44 with
  | true => some (.string ⟨⟨[66, 105, 110, 97, 114, 121]⟩⟩)
  | false => match Nat.beq k 64 with
  | true => some (.string ⟨⟨[82, 101, 115, 116]⟩⟩)
  | false => none
theorem nameOf_ok {k : Nat} {v : Value} (e : nameOf k = some v) : runF Tryz.prog 1000 noMemo T1 400 11 [.int .i64 (.ofNat k)] = some v := by
  unfold nameOf at e
  split at e
  · rename_i h; rw [Nat.eq_of_beq_eq_true h, ← e]; exact name_30
  · skip
    split at e
    · rename_i h; rw [Nat.eq_of_beq_eq_true h, ← e]; exact name_34
    · skip
      split at e
      · rename_i h; rw [Nat.eq_of_beq_eq_true h, ← e]; exact name_44
      · skip
        split at e
        · rename_i h; rw [Nat.eq_of_beq_eq_true h, ← e]; exact name_64
        · skip
          cases e
def memoN : Memo := fun f vs => match Nat.beq f 11 with
  | true => match vs with
    | [.int .i64 (.ofNat k)] => nameOf k
    | _ => none
  | false => none
theorem memoN_ok {w : World} (h : TabsOk 1000 w T1) : MemoOk Tryz.prog w memoN := fun f vs v e => by
  unfold memoN at e
  split at e
  · rename_i hf
    have hf := Nat.eq_of_beq_eq_true hf
    subst hf
    split at e
    · rename_i k
      have h1 := nameOf_ok e
      refine ⟨rfl, ?_, fun w' hk => runF_sound mixed (noMemo_ok w') (by decide) (h.keep hk) h1⟩
      unfold runF at h1
      split at h1
      · split at h1
        · rename_i hfl
          split at h1
          · cases h1; exact hfl
          · cases h1
        · cases h1
      · cases h1
    · cases e
  · cases e
end Go.Proofs.YtllilkcocfalmaaGreatDoor
