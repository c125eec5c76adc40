/- A list of functions with their bodies, as the row reads it. No statement of the seat is proved here. -/
import Derived.Test.YtoclmkdfcafhfaaGreatDoorRead
import Derived.Test.YtoclmkdfcafhfaaGreatDoorIs4
set_option maxRecDepth 20000
namespace Go.Proofs.YtoclmkdfcafhfaaGreatDoor
open Go.ChangeShapes Go.WideShapes Go.ChangeAt Go.RowKit Go.Deep Go.Vcg
section
variable {H : Type} {enc : TypeId × Value → H} {W : World} {base : Nat} {spare : Nat → Bool} {held : Bool}
theorem it_cells {fuel : Nat} {cs : List Value} {x : DataW H × List MemPlace} (h : DataW.trod enc Tryz.prog W base spare held fuel 70 cs = some x) : ∃ tk : It, cs = encIt tk := by
  obtain ⟨xs, n, _, _, hlen, hxl, hf⟩ := DataW.trod_struct Tryz.underlying70 h
  have hl : cs.length = 6 := hlen.trans (by kernel_rfl)
  have fa := field_at (t := 70) (by kernel_rfl) (by rw [hl]; rfl) hxl hf
  obtain ⟨c0, y0, e0, t0⟩ := fa 0 _ rfl
  obtain ⟨c1, y1, e1, t1⟩ := fa 1 _ rfl
  obtain ⟨c2, y2, e2, t2⟩ := fa 2 _ rfl
  obtain ⟨c3, y3, e3, t3⟩ := fa 3 _ rfl
  obtain ⟨c4, y4, e4, t4⟩ := fa 4 _ rfl
  obtain ⟨c5, y5, e5, t5⟩ := fa 5 _ rfl
  obtain ⟨a0, z0, _, _⟩ := DataW.trod_int Tryz.underlying3 t0
  obtain ⟨a1, z1, _, _⟩ := DataW.trod_int Tryz.underlying3 t1
  obtain ⟨a2, z2, _, _⟩ := DataW.trod_int Tryz.underlying3 t2
  obtain ⟨a3, z3, _, _⟩ := DataW.trod_int Tryz.underlying3 t3
  obtain ⟨a4, z4, _, _⟩ := DataW.trod_string Tryz.underlying9 t4
  obtain ⟨a5, z5, _, _⟩ := DataW.trod_int Tryz.underlying3 t5
  simp only [List.cons.injEq, and_true] at z0 z1 z2 z3 z4 z5
  subst z0 z1 z2 z3 z4 z5
  refine ⟨⟨a0, a1, a2, a3, a4, a5⟩, ?_⟩
  match cs, hl with
  | [_, _, _, _, _, _], _ =>
    simp at e0 e1 e2 e3 e4 e5
    simp [e0, e1, e2, e3, e4, e5]
theorem open_it {r : Reach} {b0 : Nat} {v : Value} {d : DataW H} {p : List MemPlace} (hv : Value.okWide Tryz.prog W r b0 70 v) (h : DataW.Trod enc Tryz.prog W base spare held 70 v d p) : ∃ tk : It, v = .agg (encIt tk).toArray := by
  obtain ⟨cs, rfl, _⟩ := okWide_struct Tryz.underlying70 hv
  obtain ⟨fuel, hf⟩ := h
  obtain ⟨tk, htk⟩ := it_cells hf
  refine ⟨tk, ?_⟩
  simp only [Value.cells] at htk
  rw [← htk]
theorem open_its {r : Reach} {b0 : Nat} {v : Value} {d : DataW H} {p : List MemPlace} (hv : Value.okWide Tryz.prog W r b0 66 v) (h : DataW.Trod enc Tryz.prog W 0 (fun _ => true) true 66 v d p) :
    ∃ A n c ts, v = .slice A n c ∧ Sl encIt 6 (memOf W) A n ts ∧ n ≤ maxLen :=
  read_slice Tryz.underlying66 (by kernel_rfl) (fun _ _ _ h => it_cells h) hv h
end
section
variable {H : Type} {enc : TypeId × Value → H} {W : World}
theorem fn_read {fuel : Nat} {cs : List Value} {x : DataW H × List MemPlace} (h : DataW.trod enc Tryz.prog W 0 (fun _ => true) true fuel 68 cs = some x) : ∃ f : FnI, cs = encFn f ∧ FnOk (memOf W) f := by
  obtain ⟨xs, n, hfuel, hx, hlen, hxl, hf⟩ := DataW.trod_struct Tryz.underlying68 h
  have hl : cs.length = 5 := hlen.trans (by kernel_rfl)
  have fa := field_at' (t := 68) (by kernel_rfl) (by rw [hl]; rfl) hxl hf
  obtain ⟨c0, y0, e0, t0, g0⟩ := fa 0 _ rfl
  obtain ⟨c1, y1, e1, t1, g1⟩ := fa 1 _ rfl
  obtain ⟨c2, y2, e2, t2, g2⟩ := fa 2 _ rfl
  obtain ⟨c3, y3, e3, t3, g3⟩ := fa 3 _ rfl
  obtain ⟨c4, y4, e4, t4, g4⟩ := fa 4 _ rfl
  obtain ⟨a0, z0, u0, _⟩ := DataW.trod_string Tryz.underlying9 t0
  obtain ⟨a1, z1, u1, _⟩ := DataW.trod_int Tryz.underlying3 t1
  obtain ⟨a2, z2, u2, _⟩ := DataW.trod_int Tryz.underlying3 t2
  obtain ⟨a3, z3, u3, _⟩ := DataW.trod_int Tryz.underlying3 t3
  simp only [List.cons.injEq, and_true] at z0 z1 z2 z3
  subst z0 z1 z2 z3
  have hcs : cs = [.string a0, .int .i64 a1, .int .i64 a2, .int .i64 a3, c4] := by
    match cs, hl with
    | [_, _, _, _, _], _ =>
      simp at e0 e1 e2 e3 e4
      simp [e0, e1, e2, e3, e4]
  refine ⟨⟨a0, a1, a2, a3, c4⟩, hcs, ?_⟩
  rcases DataW.trod_slice Tryz.underlying66 t4 with ⟨h0, _⟩ | ⟨a, len, cap, elems, rest, k, hk, h0, _, hb, hle, hm, hlen', hel, _⟩
  · simp only [List.cons.injEq, and_true] at h0
    subst h0
    exact ⟨none, 0, 0, [], rfl, Sl.nil _ _ _ _, by simp⟩
  · simp only [List.cons.injEq, and_true] at h0
    subst h0
    have hex : ∀ i, i < len → ∃ y : It, MCells (memOf W) (a.add (i * 6)) (encIt y) := fun i hi => by
      have he := hel i hi
      rw [List.getElem?_eq_getElem (show i < elems.length by omega)] at he
      obtain ⟨cs', hc, ht'⟩ := Option.bind_eq_some_iff.1 he
      obtain ⟨t, rfl⟩ := it_cells ht'
      refine ⟨t, fun j v hv => ?_⟩
      obtain ⟨_, hcl, hat⟩ := World.cells?_some hc
      have hs : Tryz.prog.cellsOf 70 = 6 := by kernel_rfl
      rw [hs] at hat hcl
      have hj : j < 6 := by
        have := (List.getElem?_eq_some_iff.1 hv).1
        simpa using this
      have := hat j hj
      rw [hv] at this
      exact MCell.of_cell this
    obtain ⟨l, hl1, hl2⟩ := exists_list len hex
    exact ⟨some a, len, cap, l, rfl, ⟨hl1, fun _ => ⟨a, rfl, hl2⟩⟩, by have := hm; simp only [maxLen] at this; omega⟩
theorem open_fns {r : Reach} {b0 : Nat} {v : Value} {d : DataW H} {p : List MemPlace} (hv : Value.okWide Tryz.prog W r b0 33 v) (h : DataW.Trod enc Tryz.prog W 0 (fun _ => true) true 33 v d p) :
    ∃ A n c fs, v = .slice A n c ∧ Sl encFn 5 (memOf W) A n fs ∧ n ≤ 9223372036854775807 ∧ ∀ f ∈ fs, FnOk (memOf W) f := by
  obtain ⟨A, n, c, rfl⟩ := okWide_slice Tryz.underlying33 hv
  obtain ⟨fuel, hf⟩ := h
  rcases open_slice Tryz.underlying33 hf with ⟨hcs, _⟩ | ⟨a, len, cap, m, k, D, Pl, hcs, _, hl, hm, hmm, _, hi⟩
  · simp [Value.cells] at hcs
    obtain ⟨rfl, rfl, rfl⟩ := hcs
    exact ⟨none, 0, 0, [], rfl, Sl.nil _ _ _ _, by simp, by simp⟩
  · simp [Value.cells] at hcs
    obtain ⟨rfl, rfl, rfl⟩ := hcs
    simp at hmm
    have hs : Tryz.prog.cellsOf 68 = 5 := by kernel_rfl
    have hex : ∀ i, i < n → ∃ y : FnI, MCells (memOf W) (a.add (i * 5)) (encFn y) ∧ FnOk (memOf W) y := fun i hin => by
      obtain ⟨cs', hc, ht'⟩ := hi i (by omega)
      obtain ⟨y, rfl, hq⟩ := fn_read ht'
      refine ⟨y, fun j u hu => ?_, hq⟩
      obtain ⟨_, hcl, hat⟩ := World.cells?_some hc
      rw [hs] at hat hcl
      have hj : j < 5 := by
        have := (List.getElem?_eq_some_iff.1 hu).1
        simpa using this
      have := hat j hj
      rw [hu] at this
      exact MCell.of_cell this
    obtain ⟨l, hl1, hl2⟩ := exists_list n hex
    refine ⟨some a, n, c, l, rfl, ⟨hl1, fun _ => ⟨a, rfl, fun i x hx => (hl2 i x hx).1⟩⟩, by (have h9 : maxLen ≤ 9223372036854775807 := by decide); omega, fun x hx => ?_⟩
    obtain ⟨i, hi1⟩ := List.mem_iff_getElem?.1 hx
    exact (hl2 i x hi1).2
end
end Go.Proofs.YtoclmkdfcafhfaaGreatDoor
