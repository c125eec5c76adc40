/- From the world's shape to the words of the walk. No statement of the seat is proved here. -/
import Derived.Test.YtoclmkdfcafhfaaGreatDoorIr7
import Derived.Test.YtoclmkdfcafhfaaGreatDoorBoth
import Derived.Shelf.Vars
import Derived.Test.YtoclmkdfcafhfaaGreatDoorRead
import Derived.Lay
import Derived.LaidOnce
import Derived.SevenTiedAt
import Derived.Test.YtoclmkdfcafhfaaGreatDoorTie
import Derived.Test.YtoclmkdfcafhfaaGreatDoorCards
set_option maxRecDepth 20000
namespace Go.Proofs.YtoclmkdfcafhfaaGreatDoor
open Go.ChangeShapes Go.WideShapes Go.ChangeAt Go.RowKit Go.Deep Go.Vcg
theorem i64_bounds {n : Int} (h : (Lit.int .i64 n).wf = true) : -9223372036854775808 ≤ n ∧ n ≤ 9223372036854775807 := by
  simp only [Lit.wf, Bool.and_eq_true, decide_eq_true_eq] at h
  simpa [IntKind.min, IntKind.max, IntKind.signed, IntKind.bits] using h
theorem maxM_W {W : World} (hs : W.ShapedOpen Tryz.prog) : MaxM (memOf W) := by
  obtain ⟨m, hm⟩ := cell_of_shapedOpen_int (g := Tryz.lays145_ren.g 1) (t := 3) (zero := #[.int .i64 0]) (k := .i64) hs (of_decide_eq_true (by kernel_rfl)) (by kernel_rfl) rfl (by kernel_rfl) (by kernel_rfl) (by kernel_rfl)
  exact maxM_of ⟨m, hm⟩
end Go.Proofs.YtoclmkdfcafhfaaGreatDoor
