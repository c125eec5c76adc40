/- From the row's listed tables to the words of the walk. No statement of the seat is proved here. -/
import Derived.Test.YtllilkcocfalmaaDoorTg10
import Derived.Lib.LaidU8
import Derived.Lib.LaidTab
import Derived.Test.YtllilkcocfalmaaDoorNode
import Derived.Lay
import Derived.LaidOnce
import Derived.SevenTiedAt
import Derived.Test.YtllilkcocfalmaaDoorTie
import Derived.Test.YtllilkcocfalmaaDoorCards
set_option maxRecDepth 20000
namespace Go.Proofs.YtllilkcocfalmaaDoor
open Go.ChangeShapes Go.WideShapes Go.ChangeAt Go.RowKit Go.Deep Go.Vcg
def aspI : List Int := List.replicate 9 0 ++ List.replicate 5 1 ++ List.replicate 18 0 ++ [1] ++ List.replicate 223 0
theorem tabM_of {W : World} {l : List (String × DataW Unit)} (h : laidMet Tryd.prog l W) (hm : ("strings.asciiSpace", Rows.laid_strings_asciiSpace) ∈ l) : TabM (memOf W) := fun g cs hgc => by
  have hgc' : g = 0 ∧ cs = asp := by simpa [T1] using hgc
  obtain ⟨rfl, rfl⟩ := hgc'
  refine ⟨by decide, by kernel_rfl, ?_⟩
  obtain ⟨g, t, cs, fuel, p, h1, h2, h3, h4⟩ := Lib.laidMet.reads h hm
  have hg : Tryd.prog.globalNamed "strings.asciiSpace" = some 0 := by kernel_rfl
  obtain rfl := Option.some.inj (hg.symm.trans h1)
  have ht : (Tryd.prog.globals[0]?).map (·.type) = some 66 := by kernel_rfl
  obtain rfl := Option.some.inj (ht.symm.trans h2)
  have hd : (Rows.laid_strings_asciiSpace : DataW Unit) = Lib.tabData .u8 aspI := by rfl
  rw [hd] at h4
  have hc := Lib.cells_of_tab Tryd.underlying66 Tryd.underlying5 (by kernel_rfl) (by kernel_rfl) h4
  unfold World.var? at h3
  rw [hg] at h3
  simp only [Option.bind_some] at h3
  cases hb : W.heap[0]? with
  | none => rw [hb] at h3; cases h3
  | some o =>
    rw [hb] at h3
    cases o <;> simp at h3
    rename_i cs' t f
    subst h3
    refine ⟨t, f, ?_⟩
    show W.heap[0]? = _
    have he : asp = List.map (fun z => Value.int IntKind.u8 z) aspI := by kernel_rfl
    rw [hb, he, ← hc]
end Go.Proofs.YtllilkcocfalmaaDoor
