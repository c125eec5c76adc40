/- Closed runs of package tree's Name; what the machine may take as known. No statement of the seat is proved here. -/
import Derived.Test.YtnllooebophcpaaDoorRl
import Derived.KernelRfl
set_option maxRecDepth 20000
namespace Go.Proofs.YtnllooebophcpaaDoor
open Go.Rex Go.RowKit Go.Vcg
set_option maxRecDepth 20000

def zz (n : Nat) : List Value := List.replicate n (.int .u8 0)
/-- the library's table of white space -/
def asp : List Value := zz 9 ++ List.replicate 5 (.int .u8 1) ++ zz 18 ++ [.int .u8 1] ++ zz 223
def T1 : List (Nat × List Value) := [(0, asp)]
def noMemo : Memo := fun _ _ => none
theorem noMemo_ok (w : World) : MemoOk Tryd.prog w noMemo := fun _ _ _ e => by cases e
theorem mixed : Tryd.prog.follows .mixedOrders = true := by kernel_rfl
theorem name_1 : runF Tryd.prog 1000 noMemo T1 400 47 [.int .i64 (.ofNat 1)] = some (.string ⟨⟨[80, 114, 111, 103, 114, 97, 109]⟩⟩) := by kernel_rfl
theorem name_6 : runF Tryd.prog 1000 noMemo T1 400 47 [.int .i64 (.ofNat 6)] = some (.string ⟨⟨[66, 108, 111, 99, 107]⟩⟩) := by kernel_rfl
theorem name_13 : runF Tryd.prog 1000 noMemo T1 400 47 [.int .i64 (.ofNat 13)] = some (.string ⟨⟨[87, 104, 105, 108, 101]⟩⟩) := by kernel_rfl
theorem name_15 : runF Tryd.prog 1000 noMemo T1 400 47 [.int .i64 (.ofNat 15)] = some (.string ⟨⟨[66, 114, 101, 97, 107]⟩⟩) := by kernel_rfl
theorem name_16 : runF Tryd.prog 1000 noMemo T1 400 47 [.int .i64 (.ofNat 16)] = some (.string ⟨⟨[67, 111, 110, 116, 105, 110, 117, 101]⟩⟩) := by kernel_rfl
theorem name_35 : runF Tryd.prog 1000 noMemo T1 400 47 [.int .i64 (.ofNat 35)] = some (.string ⟨⟨[84, 104, 105, 115]⟩⟩) := by kernel_rfl
def nameOf (k : Nat) : Option Value := match Nat.beq k 1 with
  | true => some (.string ⟨⟨[80, 114, 111, 103, 114, 97, 109]⟩⟩)
  | false => match Nat.beq k 6 with
  | true => some (.string ⟨⟨[66, 108, 111, 99, 107]⟩⟩)
  | false => match Nat.beq k 13 with
  | true => some (.string ⟨⟨[87, 104, 105, 108, 101]⟩⟩)
  | false => match Nat.beq k 15 with
  | true => some (.string ⟨⟨[66, 114, 101, 97, 107]⟩⟩)
  | false => match Nat.beq k 16 with
  | true => some (.string ⟨⟨[67, 111, 110, 116, 105, 110, 117, 101]⟩⟩)
  | false => match Nat.beq k 35 with
  | true => some (.string ⟨⟨[84, 104, 105, 115]⟩⟩)
  | false => none
theorem nameOf_ok {k : Nat} {v : Value} (e : nameOf k = some v) : runF Tryd.prog 1000 noMemo T1 400 47 [.int .i64 (.ofNat k)] = some v := by
  unfold nameOf at e
  split at e
  · rename_i h; rw [Nat.eq_of_beq_eq_true h, ← e]; exact name_1
  · skip
    split at e
    · rename_i h; rw [Nat.eq_of_beq_eq_true h, ← e]; exact name_6
    · skip
      split at e
      · rename_i h; rw [Nat.eq_of_beq_eq_true h, ← e]; exact name_13
      · skip
        split at e
        · rename_i h; rw [Nat.eq_of_beq_eq_true h, ← e]; exact name_15
        · skip
          split at e
          · rename_i h; rw [Nat.eq_of_beq_eq_true h, ← e]; exact name_16
          · skip
            split at e
            · rename_i h; rw [Nat.eq_of_beq_eq_true h, ← e]; exact name_35
            · skip
              cases e
def memoN : Memo := fun f vs => match Nat.beq f 47 with
  | true => match vs with
    | [.int .i64 (.ofNat k)] => nameOf k
    | _ => none
  | false => none
theorem memoN_ok {w : World} (h : TabsOk 1000 w T1) : MemoOk Tryd.prog w memoN := fun f vs v e => by
  unfold memoN at e
  split at e
  · rename_i hf
    have hf := Nat.eq_of_beq_eq_true hf
    subst hf
    split at e
    · rename_i k
      have h1 := nameOf_ok e
      refine ⟨rfl, ?_, fun w' hk => runF_sound mixed (noMemo_ok w') (by decide) (h.keep hk) h1⟩
      unfold runF at h1
      split at h1
      · split at h1
        · rename_i hfl
          split at h1
          · cases h1; exact hfl
          · cases h1
        · cases h1
      · cases h1
    · cases e
  · cases e
end Go.Proofs.YtnllooebophcpaaDoor
