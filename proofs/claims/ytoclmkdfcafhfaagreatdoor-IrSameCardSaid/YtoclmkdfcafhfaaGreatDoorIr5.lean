/- Closed runs of package ir's Text and Read: what the machine may take as known. No statement of the seat is proved here. -/
import Derived.Test.YtoclmkdfcafhfaaGreatDoorIr4
import Derived.Test.YtoclmkdfcafhfaaGreatDoorRead
set_option maxRecDepth 20000
namespace Go.Proofs.YtoclmkdfcafhfaaGreatDoor
open Go.Rex Go.RowKit Go.Vcg Go.Shelf
set_option maxRecDepth 20000
theorem maxM_of {w : World} (h : MaxAt w) : MaxM (memOf w) := fun w' hw => by
  obtain ⟨m, hm⟩ := h
  refine ⟨m, ?_⟩
  unfold World.cell? at hm ⊢
  split at hm
  · rename_i cs t f h1
    rw [hw _ _ h1]
    exact hm
  · cases hm
def memoR : Memo := fun f vs => match Nat.beq f 24 with
  | true => match vs with
    | [.int .i64 (.ofNat k)] => match Nat.ble k 1000 with
      | true => match rowAt k with
        | (a, b) => some (.tuple ⟨[.string ⟨⟨a⟩⟩, .string ⟨⟨b⟩⟩]⟩)
      | false => none
    | _ => none
  | false => none
theorem memoR_ok {w : World} (h : MaxAt w) : MemoOk Tryz.prog w memoR := fun f vs v e => by
  unfold memoR at e
  split at e
  · rename_i hf
    have hf := Nat.eq_of_beq_eq_true hf
    subst hf
    split at e
    · rename_i k
      split at e
      · rename_i hk
        have hk : k ≤ 1000 := ble_t hk
        split at e
        rename_i a b hab
        cases e
        refine ⟨rfl, rfl, fun w' hk' => ?_⟩
        have := row_spec w' (memOf w') (memOf_ok w') (maxM_of (h.keep hk')) (Int.ofNat k) (by simp; omega)
        have hr : rowI (Int.ofNat k) = (a, b) := hab
        rw [hr] at this
        exact this
      · cases e
    · cases e
  · cases e
theorem bExtra : Builder.Extra Tryz.prog Tryz.lays156_ren := {
  sizeBuilder := by kernel_rfl
  liesBuilder := by kernel_rfl
  t5 := by kernel_rfl
  a5 := Go.Vcg.run_isAgg (by kernel_rfl)
  z5 := Go.Vcg.run_sizeOf (by kernel_rfl)
  v5 := Go.Vcg.run_zeroValue (by kernel_rfl)
  infoByte := by kernel_rfl
  cellsByte := by kernel_rfl
  sizeByte := by kernel_rfl
  neB5 := by decide }
theorem lays240 : Lays.n240 Tryz.prog Tryz.lays156_ren := { Tryz.lays156 with }
def pr1 : CallF := orCall (memoC memoR) (orCall (memoC memoS) (orCall (primCC 103 75) (primJoin 71)))
theorem pr1_ok {w : World} (h : MaxAt w) : CallOk Tryz.prog w 1000 pr1 :=
  orCall_ok (memoC_ok (memoR_ok h)) (orCall_ok (memoC_ok (memoS_ok h)) (orCall_ok
    (primCC_ok (fun b w h0 h1 h2 => Any.Builder_copyCheck_fresh lays240 bExtra.toX72 b w h0 h1 h2) (fun b w h0 => Any.Builder_copyCheck_used lays240 bExtra.toX72 b w h0))
    (primJoin_ok fun bk o c xs sep w h1 h2 h3 h4 h5 => Any.strings_Join Tryz.lays156 bExtra bk o c xs sep w h1 h2 h3 h4 h5)))
end Go.Proofs.YtoclmkdfcafhfaaGreatDoor
