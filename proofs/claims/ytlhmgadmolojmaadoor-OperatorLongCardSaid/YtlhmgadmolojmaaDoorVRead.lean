/- A value, as the row reads it. No statement of the seat is proved here. -/
import Derived.Test.YtlhmgadmolojmaaDoorRead
import Derived.Test.YtlhmgadmolojmaaDoorNum1
import Derived.Lay
import Derived.LaidOnce
import Derived.SevenTiedAt
import Derived.Test.YtlhmgadmolojmaaDoorTie
import Derived.Test.YtlhmgadmolojmaaDoorCards
set_option maxRecDepth 20000
namespace Go.Proofs.YtlhmgadmolojmaaDoor
open Go.ChangeShapes Go.WideShapes Go.ChangeAt Go.RowKit Go.Deep Go.Vcg

theorem i64_bounds {n : Int} (h : (Lit.int .i64 n).wf = true) : -9223372036854775808 ≤ n ∧ n ≤ 9223372036854775807 := by
  simp only [Lit.wf, Bool.and_eq_true, decide_eq_true_eq] at h
  simpa [IntKind.min, IntKind.max, IntKind.signed, IntKind.bits] using h
section
variable {H : Type} {enc : TypeId × Value → H} {W : World} {base : Nat} {spare : Nat → Bool} {held : Bool}
theorem val_cells {fuel : Nat} {cs : List Value} {x : DataW H × List MemPlace} (h : DataW.trod enc Tryd.prog W base spare held fuel 23 cs = some x) : ∃ tk : V, cs = encV tk := by
  obtain ⟨xs, n, _, _, hlen, hxl, hf⟩ := DataW.trod_struct Tryd.underlying23 h
  have hl : cs.length = 3 := hlen.trans (by kernel_rfl)
  have fa := field_at (t := 23) (by kernel_rfl) (by rw [hl]; rfl) hxl hf
  obtain ⟨c0, y0, e0, t0⟩ := fa 0 _ rfl
  obtain ⟨c1, y1, e1, t1⟩ := fa 1 _ rfl
  obtain ⟨c2, y2, e2, t2⟩ := fa 2 _ rfl
  obtain ⟨a0, z0, _, _⟩ := DataW.trod_int Tryd.underlying3 t0
  obtain ⟨a1, z1, _, _⟩ := DataW.trod_int Tryd.underlying3 t1
  obtain ⟨a2, z2, _, _⟩ := DataW.trod_string Tryd.underlying9 t2
  simp only [List.cons.injEq, and_true] at z0 z1 z2
  subst z0 z1 z2
  refine ⟨⟨a0, a1, a2⟩, ?_⟩
  match cs, hl with
  | [_, _, _], _ =>
    simp at e0 e1 e2
    simp [e0, e1, e2]
theorem open_val {r : Reach} {b0 : Nat} {v : Value} {d : DataW H} {p : List MemPlace} (hv : Value.okWide Tryd.prog W r b0 23 v) (h : DataW.Trod enc Tryd.prog W base spare held 23 v d p) : ∃ tk : V, v = .agg (encV tk).toArray := by
  obtain ⟨cs, rfl, _⟩ := okWide_struct Tryd.underlying23 hv
  obtain ⟨fuel, hf⟩ := h
  obtain ⟨tk, htk⟩ := val_cells hf
  refine ⟨tk, ?_⟩
  simp only [Value.cells] at htk
  rw [← htk]
end
end Go.Proofs.YtlhmgadmolojmaaDoor
