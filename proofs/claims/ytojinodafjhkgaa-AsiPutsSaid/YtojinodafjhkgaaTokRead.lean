/- A token, and a list of tokens, as the row reads them. No statement of the seat is proved here. -/
import Derived.Test.YtojinodafjhkgaaRead
import Derived.Test.YtojinodafjhkgaaTok
namespace Go.Proofs.Ytojinodafjhkgaa
open Go.ChangeShapes Go.WideShapes Go.ChangeAt Go.RowKit Go.Deep Go.Vcg

section
variable {H : Type} {enc : TypeId × Value → H} {W : World} {base : Nat} {spare : Nat → Bool} {held : Bool}
theorem tok_cells {fuel : Nat} {cs : List Value} {x : DataW H × List MemPlace} (h : DataW.trod enc Try.prog W base spare held fuel 23 cs = some x) : ∃ tk : Tok, cs = encTok tk := by
  obtain ⟨xs, n, _, _, hlen, hxl, hf⟩ := DataW.trod_struct Try.underlying23 h
  have hl : cs.length = 7 := hlen.trans (by kernel_rfl)
  have fa := field_at (t := 23) (by kernel_rfl) (by rw [hl]; rfl) hxl hf
  obtain ⟨c0, y0, e0, t0⟩ := fa 0 _ rfl
  obtain ⟨c1, y1, e1, t1⟩ := fa 1 _ rfl
  obtain ⟨c2, y2, e2, t2⟩ := fa 2 _ rfl
  obtain ⟨c3, y3, e3, t3⟩ := fa 3 _ rfl
  obtain ⟨c4, y4, e4, t4⟩ := fa 4 _ rfl
  obtain ⟨c5, y5, e5, t5⟩ := fa 5 _ rfl
  obtain ⟨c6, y6, e6, t6⟩ := fa 6 _ rfl
  obtain ⟨a0, z0, _, _⟩ := DataW.trod_int Try.underlying3 t0
  obtain ⟨a1, z1, _, _⟩ := DataW.trod_int Try.underlying3 t1
  obtain ⟨a2, z2, _, _⟩ := DataW.trod_int Try.underlying3 t2
  obtain ⟨a3, z3, _, _⟩ := DataW.trod_int Try.underlying3 t3
  obtain ⟨a4, z4, _, _⟩ := DataW.trod_string Try.underlying9 t4
  obtain ⟨a5, z5, _⟩ := DataW.trod_bool Try.underlying4 t5
  obtain ⟨a6, z6, _⟩ := DataW.trod_bool Try.underlying4 t6
  simp only [List.cons.injEq, and_true] at z0 z1 z2 z3 z4 z5 z6
  subst z0 z1 z2 z3 z4 z5 z6
  refine ⟨⟨a0, a1, a2, a3, a4, a5, a6⟩, ?_⟩
  match cs, hl with
  | [_, _, _, _, _, _, _], _ =>
    simp at e0 e1 e2 e3 e4 e5 e6
    simp [e0, e1, e2, e3, e4, e5, e6]
theorem open_tok {r : Reach} {b0 : Nat} {v : Value} {d : DataW H} {p : List MemPlace} (hv : Value.okWide Try.prog W r b0 23 v) (h : DataW.Trod enc Try.prog W base spare held 23 v d p) : ∃ tk : Tok, v = .agg (encTok tk).toArray := by
  obtain ⟨cs, rfl, _⟩ := okWide_struct Try.underlying23 hv
  obtain ⟨fuel, hf⟩ := h
  obtain ⟨tk, htk⟩ := tok_cells hf
  refine ⟨tk, ?_⟩
  simp only [Value.cells] at htk
  rw [← htk]
theorem open_toks {r : Reach} {b0 : Nat} {v : Value} {d : DataW H} {p : List MemPlace} (hv : Value.okWide Try.prog W r b0 30 v) (h : DataW.Trod enc Try.prog W 0 (fun _ => true) true 30 v d p) :
    ∃ A n c ts, v = .slice A n c ∧ Sl encTok 7 (memOf W) A n ts ∧ n ≤ maxLen :=
  read_slice Try.underlying30 (by kernel_rfl) (fun _ _ _ h => tok_cells h) hv h
end
end Go.Proofs.Ytojinodafjhkgaa
