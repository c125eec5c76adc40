/- An item, and a list of items, as the row reads them. No statement of the seat is proved here. -/
import Derived.Test.YtcjglalhchhcpaaRead
import Derived.Test.YtcjglalhchhcpaaCov1
namespace Go.Proofs.Ytcjglalhchhcpaa
open Go.ChangeShapes Go.WideShapes Go.ChangeAt Go.RowKit Go.Deep Go.Vcg

section
variable {H : Type} {enc : TypeId × Value → H} {W : World} {base : Nat} {spare : Nat → Bool} {held : Bool}
theorem it_cells {fuel : Nat} {cs : List Value} {x : DataW H × List MemPlace} (h : DataW.trod enc Try.prog W base spare held fuel 38 cs = some x) : ∃ tk : It, cs = encIt tk := by
  obtain ⟨xs, n, _, _, hlen, hxl, hf⟩ := DataW.trod_struct Try.underlying38 h
  have hl : cs.length = 6 := hlen.trans (by kernel_rfl)
  have fa := field_at (t := 38) (by kernel_rfl) (by rw [hl]; rfl) hxl hf
  obtain ⟨c0, y0, e0, t0⟩ := fa 0 _ rfl
  obtain ⟨c1, y1, e1, t1⟩ := fa 1 _ rfl
  obtain ⟨c2, y2, e2, t2⟩ := fa 2 _ rfl
  obtain ⟨c3, y3, e3, t3⟩ := fa 3 _ rfl
  obtain ⟨c4, y4, e4, t4⟩ := fa 4 _ rfl
  obtain ⟨c5, y5, e5, t5⟩ := fa 5 _ rfl
  obtain ⟨a0, z0, _, _⟩ := DataW.trod_int Try.underlying3 t0
  obtain ⟨a1, z1, _, _⟩ := DataW.trod_int Try.underlying3 t1
  obtain ⟨a2, z2, _, _⟩ := DataW.trod_int Try.underlying3 t2
  obtain ⟨a3, z3, _, _⟩ := DataW.trod_int Try.underlying3 t3
  obtain ⟨a4, z4, _, _⟩ := DataW.trod_string Try.underlying9 t4
  obtain ⟨a5, z5, _, _⟩ := DataW.trod_int Try.underlying3 t5
  simp only [List.cons.injEq, and_true] at z0 z1 z2 z3 z4 z5
  subst z0 z1 z2 z3 z4 z5
  refine ⟨⟨a0, a1, a2, a3, a4, a5⟩, ?_⟩
  match cs, hl with
  | [_, _, _, _, _, _], _ =>
    simp at e0 e1 e2 e3 e4 e5
    simp [e0, e1, e2, e3, e4, e5]
theorem open_it {r : Reach} {b0 : Nat} {v : Value} {d : DataW H} {p : List MemPlace} (hv : Value.okWide Try.prog W r b0 38 v) (h : DataW.Trod enc Try.prog W base spare held 38 v d p) : ∃ tk : It, v = .agg (encIt tk).toArray := by
  obtain ⟨cs, rfl, _⟩ := okWide_struct Try.underlying38 hv
  obtain ⟨fuel, hf⟩ := h
  obtain ⟨tk, htk⟩ := it_cells hf
  refine ⟨tk, ?_⟩
  simp only [Value.cells] at htk
  rw [← htk]
theorem open_its {r : Reach} {b0 : Nat} {v : Value} {d : DataW H} {p : List MemPlace} (hv : Value.okWide Try.prog W r b0 22 v) (h : DataW.Trod enc Try.prog W 0 (fun _ => true) true 22 v d p) :
    ∃ A n c ts, v = .slice A n c ∧ Sl encIt 6 (memOf W) A n ts ∧ n ≤ maxLen :=
  read_slice Try.underlying22 (by kernel_rfl) (fun _ _ _ h => it_cells h) hv h
end
end Go.Proofs.Ytcjglalhchhcpaa
