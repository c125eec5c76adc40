/- strings.Builder: its writers' contracts, for a builder of the call's own and the blocks that lie beside it. No statement of the seat is proved here. -/
import Derived.Test.YtmihpkdhfomcgaaGreatDoorShelf
import Derived.Test.YtmihpkdhfomcgaaGreatDoorVs
import Derived.Lib.OthersKept
import Derived.Shelf.Strings.Builder1
set_option maxRecDepth 20000
namespace Go.Proofs
open Go.Shelf Go.RowKit Go.Lib
section
variable {P : Program} {ρ : Ren}
set_option maxHeartbeats 2000000 in
set_option maxRecDepth 100000 in
set_option maxHeartbeats 2000000 in
set_option maxRecDepth 100000 in
end
end Go.Proofs
namespace Go.Proofs.YtmihpkdhfomcgaaGreatDoor
open Go.Shelf Go.RowKit Go.Vcg
def bRen : Ren := ⟨fun | 166 => 46 | 167 => 42 | 240 => 63 | 276 => 75 | n => n, fun | 37 => 83 | 70 => 82 | 72 => 85 | 75 => 87 | 80 => 56 | 164 => 111 | n => n, fun n => n⟩
theorem bLays166 : Lays.n166 Tryz.prog bRen := {
  mixed := by kernel_rfl
  f166 := Tryz.func46.trans (congrArg some (by kernel_rfl))
  f240 := Tryz.func63.trans (congrArg some (by kernel_rfl))
  f276 := Tryz.func75.trans (congrArg some (by kernel_rfl))
  t0 := by kernel_rfl
  a0 := Go.Vcg.run_isAgg (by kernel_rfl)
  z0 := Go.Vcg.run_sizeOf (by kernel_rfl)
  v0 := Go.Vcg.run_zeroValue (by kernel_rfl)
  t3 := by kernel_rfl
  a3 := Go.Vcg.run_isAgg (by kernel_rfl)
  z3 := Go.Vcg.run_sizeOf (by kernel_rfl)
  v3 := Go.Vcg.run_zeroValue (by kernel_rfl)
  t4 := by kernel_rfl
  a4 := Go.Vcg.run_isAgg (by kernel_rfl)
  z4 := Go.Vcg.run_sizeOf (by kernel_rfl)
  v4 := Go.Vcg.run_zeroValue (by kernel_rfl)
  t9 := by kernel_rfl
  a9 := Go.Vcg.run_isAgg (by kernel_rfl)
  z9 := Go.Vcg.run_sizeOf (by kernel_rfl)
  v9 := Go.Vcg.run_zeroValue (by kernel_rfl)
  t20 := by kernel_rfl
  a20 := Go.Vcg.run_isAgg (by kernel_rfl)
  z20 := Go.Vcg.run_sizeOf (by kernel_rfl)
  v20 := Go.Vcg.run_zeroValue (by kernel_rfl)
  t37 := by kernel_rfl
  a37 := Go.Vcg.run_isAgg (by kernel_rfl)
  z37 := Go.Vcg.run_sizeOf (by kernel_rfl)
  v37 := Go.Vcg.run_zeroValue (by kernel_rfl)
  t70 := by kernel_rfl
  a70 := Go.Vcg.run_isAgg (by kernel_rfl)
  z70 := Go.Vcg.run_sizeOf (by kernel_rfl)
  v70 := Go.Vcg.run_zeroValue (by kernel_rfl)
  t72 := by kernel_rfl
  a72 := Go.Vcg.run_isAgg (by kernel_rfl)
  z72 := Go.Vcg.run_sizeOf (by kernel_rfl)
  v72 := Go.Vcg.run_zeroValue (by kernel_rfl)
  t75 := by kernel_rfl
  a75 := Go.Vcg.run_isAgg (by kernel_rfl)
  z75 := Go.Vcg.run_sizeOf (by kernel_rfl)
  v75 := Go.Vcg.run_zeroValue (by kernel_rfl)
  t164 := by kernel_rfl
  a164 := Go.Vcg.run_isAgg (by kernel_rfl)
  z164 := Go.Vcg.run_sizeOf (by kernel_rfl)
  v164 := Go.Vcg.run_zeroValue (by kernel_rfl) }
theorem bExtra : Builder.Extra Tryz.prog bRen := {
  sizeBuilder := by kernel_rfl
  liesBuilder := by kernel_rfl
  t5 := by kernel_rfl
  a5 := Go.Vcg.run_isAgg (by kernel_rfl)
  z5 := Go.Vcg.run_sizeOf (by kernel_rfl)
  v5 := Go.Vcg.run_zeroValue (by kernel_rfl)
  infoByte := by kernel_rfl
  cellsByte := by kernel_rfl
  sizeByte := by kernel_rfl
  neB5 := by decide }
end Go.Proofs.YtmihpkdhfomcgaaGreatDoor
