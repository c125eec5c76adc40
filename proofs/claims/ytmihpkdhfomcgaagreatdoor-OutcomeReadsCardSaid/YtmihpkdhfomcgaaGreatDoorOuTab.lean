/- From the row's listed table and the world's shape to the words of the walk. No statement of the seat is proved here. -/
import Derived.Test.YtmihpkdhfomcgaaGreatDoorRead
import Derived.Test.YtmihpkdhfomcgaaGreatDoorMr
import Derived.Lay
import Derived.LaidOnce
import Derived.SevenTiedAt
import Derived.Test.YtmihpkdhfomcgaaGreatDoorTie
import Derived.Test.YtmihpkdhfomcgaaGreatDoorCards
import Derived.Test.YtmihpkdhfomcgaaGreatDoorBoth
import Derived.Shelf.Vars
set_option maxRecDepth 20000
namespace Go.Proofs.YtmihpkdhfomcgaaGreatDoor
open Go.ChangeShapes Go.WideShapes Go.ChangeAt Go.RowKit Go.Deep Go.Vcg
theorem tabOk_of {W : World} {l : List (String × DataW Unit)} (h : laidMet Tryz.prog l W) (hm : (tabName, Rows.laid_internal_strconv_uint64pow10) ∈ l) : TabOk (memOf W) := by
  obtain ⟨g, t, cs, fuel, p, h1, h2, h3, h4⟩ := Lib.laidMet.reads h hm
  have hg : Tryz.prog.globalNamed tabName = some 1 := by kernel_rfl
  obtain rfl := Option.some.inj (hg.symm.trans h1)
  have ht : (Tryz.prog.globals[1]?).map (·.type) = some 141 := by kernel_rfl
  obtain rfl := Option.some.inj (ht.symm.trans h2)
  have hd : (Rows.laid_internal_strconv_uint64pow10 : DataW Unit) = Lib.tabData .u64 Lib.pow10Tab := by rfl
  rw [hd] at h4
  have hc := Lib.cells_of_tab Tryz.underlying141 Tryz.underlying131 (by kernel_rfl) (by kernel_rfl) h4
  intro w hw
  unfold Lib.TabIs World.var?
  unfold World.var? at h3
  rw [hg] at h3 ⊢
  simp only [Option.bind_some] at h3 ⊢
  cases hb : W.heap[1]? with
  | none => rw [hb] at h3; cases h3
  | some o =>
    rw [hw _ o hb]
    rw [hb] at h3
    cases o <;> simp at h3
    rename_i cs' _ _
    subst h3
    simp only [Option.some.injEq]
    rw [← hc]
theorem maxOk_of {W : World} (h : W.ShapedOpen Tryz.prog) : MaxOk (memOf W) := by
  obtain ⟨m, hm⟩ := cell_of_shapedOpen_int (g := 0) (t := 3) (zero := #[.int .i64 0]) (k := .i64) h (of_decide_eq_true (by kernel_rfl)) (by kernel_rfl) rfl (by kernel_rfl) (by kernel_rfl) (by kernel_rfl)
  exact ⟨m, MCell.of_cell hm⟩
end Go.Proofs.YtmihpkdhfomcgaaGreatDoor
