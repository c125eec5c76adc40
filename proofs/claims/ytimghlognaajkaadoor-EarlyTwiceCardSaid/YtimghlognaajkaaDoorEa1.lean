/- Closed runs of package tree's Name; what the law's calls of the library answer; what the machine may take as known. No statement of the seat is proved here. -/
import Derived.Test.YtimghlognaajkaaDoorRl
import Derived.Test.YtimghlognaajkaaDoorShelf
import Derived.KernelRfl
set_option maxRecDepth 20000
namespace Go.Proofs.YtimghlognaajkaaDoor
open Go.Rex Go.RowKit Go.Vcg Go.Shelf
set_option maxRecDepth 20000

def zz (n : Nat) : List Value := List.replicate n (.int .u8 0)
/-- the library's table of white space -/
def asp : List Value := zz 9 ++ List.replicate 5 (.int .u8 1) ++ zz 18 ++ [.int .u8 1] ++ zz 223
def T1 : List (Nat × List Value) := [(0, asp)]
def noMemo : Memo := fun _ _ => none
theorem noMemo_ok (w : World) : MemoOk Tryd.prog w noMemo := fun _ _ _ e => by cases e
theorem mixed : Tryd.prog.follows .mixedOrders = true := by kernel_rfl
/-- the listed variables are there -/
structure TabW (w : World) : Prop where
  tab : TabsOk 1000 w T1
  max : ∃ m, w.cell? ⟨Tryd.lays143_ren.g 1, 0, none⟩ = some (.int .i64 m)
theorem TabW.keep {w w' : World} (h : TabW w) (hk : Keep [] w w') : TabW w' := by
  refine ⟨h.tab.keep hk, ?_⟩
  obtain ⟨m, hm⟩ := h.max
  refine ⟨m, ?_⟩
  have hlt : (Tryd.lays143_ren.g 1) < w.heap.size := by
    unfold World.cell? at hm
    split at hm
    · rename_i h1; exact (Array.getElem?_eq_some_iff.1 h1).1
    · cases hm
  unfold World.cell? at hm ⊢
  rw [hk.block _ hlt (by simp)]
  exact hm
theorem name_1 : runF Tryd.prog 1000 noMemo T1 400 31 [.int .i64 (.ofNat 1)] = some (.string ⟨⟨[80, 114, 111, 103, 114, 97, 109]⟩⟩) := by kernel_rfl
theorem name_2 : runF Tryd.prog 1000 noMemo T1 400 31 [.int .i64 (.ofNat 2)] = some (.string ⟨⟨[86, 97, 114]⟩⟩) := by kernel_rfl
theorem name_3 : runF Tryd.prog 1000 noMemo T1 400 31 [.int .i64 (.ofNat 3)] = some (.string ⟨⟨[68, 101, 99, 108]⟩⟩) := by kernel_rfl
theorem name_6 : runF Tryd.prog 1000 noMemo T1 400 31 [.int .i64 (.ofNat 6)] = some (.string ⟨⟨[66, 108, 111, 99, 107]⟩⟩) := by kernel_rfl
theorem name_30 : runF Tryd.prog 1000 noMemo T1 400 31 [.int .i64 (.ofNat 30)] = some (.string ⟨⟨[78, 117, 109]⟩⟩) := by kernel_rfl
theorem name_34 : runF Tryd.prog 1000 noMemo T1 400 31 [.int .i64 (.ofNat 34)] = some (.string ⟨⟨[78, 97, 109, 101]⟩⟩) := by kernel_rfl
def nameOf (k : Nat) : Option Value := match Nat.beq k 1 with
  | true => some (.string ⟨⟨[80, 114, 111, 103, 114, 97, 109]⟩⟩)
  | false => match Nat.beq k 2 with
  | true => some (.string ⟨⟨[86, 97, 114]⟩⟩)
  | false => match Nat.beq k 3 with
  | true => some (.string ⟨⟨[68, 101, 99, 108]⟩⟩)
  | false => match Nat.beq k 6 with
  | true => some (.string ⟨⟨[66, 108, 111, 99, 107]⟩⟩)
  | false => match Nat.beq k 30 with
  | true => some (.string ⟨⟨[78, 117, 109]⟩⟩)
  | false => match Nat.beq k 34 with
  | true => some (.string ⟨⟨[78, 97, 109, 101]⟩⟩)
  | false => none
theorem nameOf_ok {k : Nat} {v : Value} (e : nameOf k = some v) : runF Tryd.prog 1000 noMemo T1 400 31 [.int .i64 (.ofNat k)] = some v := by
  unfold nameOf at e
  split at e
  · rename_i h; rw [Nat.eq_of_beq_eq_true h, ← e]; exact name_1
  · skip
    split at e
    · rename_i h; rw [Nat.eq_of_beq_eq_true h, ← e]; exact name_2
    · skip
      split at e
      · rename_i h; rw [Nat.eq_of_beq_eq_true h, ← e]; exact name_3
      · skip
        split at e
        · rename_i h; rw [Nat.eq_of_beq_eq_true h, ← e]; exact name_6
        · skip
          split at e
          · rename_i h; rw [Nat.eq_of_beq_eq_true h, ← e]; exact name_30
          · skip
            split at e
            · rename_i h; rw [Nat.eq_of_beq_eq_true h, ← e]; exact name_34
            · skip
              cases e
def memoN : Memo := fun f vs => match Nat.beq f 31 with
  | true => match vs with
    | [.int .i64 (.ofNat k)] => nameOf k
    | _ => none
  | false => match Nat.beq f 80 with
    | true => match vs with
      | [.string s, .string t] => match Nat.ble s.size 65536 with
        | true => some (.bool (Lib.contains (bl s) (bl t)))
        | false => none
      | _ => none
    | false => none
theorem memoN_ok {w : World} (h : TabW w) : MemoOk Tryd.prog w memoN := fun f vs v e => by
  unfold memoN at e
  split at e
  · rename_i hf
    have hf := Nat.eq_of_beq_eq_true hf
    subst hf
    split at e
    · rename_i k
      have h1 := nameOf_ok e
      refine ⟨rfl, ?_, fun w' hk => runF_sound mixed (noMemo_ok w') (by decide) (h.keep hk).tab h1⟩
      unfold runF at h1
      split at h1
      · split at h1
        · rename_i hfl
          split at h1
          · cases h1; exact hfl
          · cases h1
        · cases h1
      · cases h1
    · cases e
  · split at e
    · rename_i hf
      have hf := Nat.eq_of_beq_eq_true hf
      subst hf
      split at e
      · rename_i s t
        split at e
        · rename_i hs
          have hs : s.size ≤ 65536 := ble_t hs
          cases e
          refine ⟨rfl, rfl, fun w' hk => ?_⟩
          obtain ⟨m, hm⟩ := (h.keep hk).max
          exact (Any.strings_Contains Tryd.lays144 s t m w' (by omega) hm).mono fun e w'' ⟨h1, h2⟩ => ⟨h1, h2 ▸ Below.refl _ _⟩
        · cases e
      · cases e
    · cases e
end Go.Proofs.YtimghlognaajkaaDoor
