/- How long the text of a value that is handed in can be. No statement of the seat is proved here. -/
import Derived.Test.YtlhmgadmolojmaaDoorVRead
set_option maxRecDepth 20000
namespace Go.Proofs.YtlhmgadmolojmaaDoor
open Go.ChangeShapes Go.WideShapes Go.ChangeAt Go.RowKit Go.Deep Go.Vcg
section
variable {H : Type} {enc : TypeId × Value → H} {W : World} {base : Nat} {spare : Nat → Bool} {held : Bool}
theorem val_weight {v : Value} {d : DataW H} {p : List MemPlace} {tk : V} (h : DataW.Trod enc Tryd.prog W base spare held 23 v d p) (hv : v = .agg (encV tk).toArray) : tk.s.size ∈ d.weights Tryd.prog 23 := by
  obtain ⟨fuel, hf⟩ := h
  subst hv
  obtain ⟨xs, n, _, hx, hlen, hxl, hf⟩ := DataW.trod_struct Tryd.underlying23 hf
  have fa := field_at' (t := 23) (by kernel_rfl) rfl hxl hf
  obtain ⟨c0, y0, e0, t0, g0⟩ := fa 0 _ rfl
  obtain ⟨c1, y1, e1, t1, g1⟩ := fa 1 _ rfl
  obtain ⟨c2, y2, e2, t2, g2⟩ := fa 2 _ rfl
  simp only [Value.cells, List.getElem?_cons_zero, List.getElem?_cons_succ, Option.some.injEq] at e0 e1 e2
  subst e0 e1 e2
  obtain ⟨a2, z2, u2, _⟩ := DataW.trod_string Tryd.underlying9 t2
  obtain ⟨a1, z1, u1, _⟩ := DataW.trod_int Tryd.underlying3 t1
  obtain ⟨a0, z0, u0, _⟩ := DataW.trod_int Tryd.underlying3 t0
  simp only [List.cons.injEq, and_true, Value.string.injEq] at z2
  subst z2 u0 u1 u2
  have hxs : xs = [(.lit (.int .i64 a0), []), (.lit (.int .i64 a1), []), (.lit (.string tk.s.data.toList), [])] := by
    have h3 : xs.length = 3 := hxl
    match xs, h3 with
    | [_, _, _], _ =>
      simp at g0 g1 g2
      rw [g0, g1, g2]
  subst hxs
  have hd : d = .agg [.lit (.int .i64 a0), .lit (.int .i64 a1), .lit (.string tk.s.data.toList)] := congrArg Prod.fst hx
  subst hd
  rw [DataW.weights, Tryd.underlying23]
  show _ ∈ DataW.weightsEach Tryd.prog [3, 3, 9] _
  rw [DataW.weightsEach, DataW.weightsEach, DataW.weightsEach, DataW.weights, DataW.weights, DataW.weights]
  · refine List.mem_append_right _ (List.mem_append_right _ (List.mem_append_left _ ?_))
    exact List.mem_singleton.2 (by rw [Array.length_toList]; rfl)
  all_goals (intro bytes h; cases h)
theorem val_bound {v : Value} {d : DataW H} {p : List MemPlace} {tk : V} (h : DataW.Trod enc Tryd.prog W base spare held 23 v d p) (hv : v = .agg (encV tk).toArray) (hw : (d.weights Tryd.prog 23).all (· ≤ reachBytes) = true) : tk.s.size ≤ 140737488355328 := by
  have := of_decide_eq_true (List.all_eq_true.1 hw _ (val_weight h hv))
  unfold reachBytes at this
  omega
end
end Go.Proofs.YtlhmgadmolojmaaDoor
