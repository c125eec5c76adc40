/- A tree of nodes, as the row reads it. No statement of the seat is proved here. -/
import Derived.Test.YtllilkcocfalmaaDoorRead
import Derived.Test.YtllilkcocfalmaaDoorTree
set_option maxRecDepth 20000
namespace Go.Proofs.YtllilkcocfalmaaDoor
open Go.ChangeShapes Go.WideShapes Go.ChangeAt Go.RowKit Go.Deep Go.Vcg
section
variable {H : Type} {enc : TypeId × Value → H} {W : World}
/-- a node that is read, and its children -/
theorem node_read : ∀ (fuel : Nat) {cs : List Value} {x : DataW H × List MemPlace}, DataW.trod enc Tryd.prog W 0 (fun _ => true) true fuel 24 cs = some x → ∃ (t : T) (u : Value), cs = encT t u ∧ KR (memOf W) t.kids u := by
  intro fuel
  induction fuel using Nat.strongRecOn with
  | _ fuel ih =>
    intro cs x h
    obtain ⟨xs, n, hfuel, hx, hlen, hxl, hf⟩ := DataW.trod_struct Tryd.underlying24 h
    have hl : cs.length = 6 := hlen.trans (by kernel_rfl)
    have fa := field_at' (t := 24) (by kernel_rfl) (by rw [hl]; rfl) hxl hf
    obtain ⟨c0, y0, e0, t0, g0⟩ := fa 0 _ rfl
    obtain ⟨c1, y1, e1, t1, g1⟩ := fa 1 _ rfl
    obtain ⟨c2, y2, e2, t2, g2⟩ := fa 2 _ rfl
    obtain ⟨c3, y3, e3, t3, g3⟩ := fa 3 _ rfl
    obtain ⟨c4, y4, e4, t4, g4⟩ := fa 4 _ rfl
    obtain ⟨c5, y5, e5, t5, g5⟩ := fa 5 _ rfl
    obtain ⟨a0, z0, u0, _⟩ := DataW.trod_int Tryd.underlying3 t0
    obtain ⟨a1, z1, u1, _⟩ := DataW.trod_int Tryd.underlying3 t1
    obtain ⟨a2, z2, u2, _⟩ := DataW.trod_int Tryd.underlying3 t2
    obtain ⟨a3, z3, u3, _⟩ := DataW.trod_int Tryd.underlying3 t3
    obtain ⟨a4, z4, u4, _⟩ := DataW.trod_string Tryd.underlying9 t4
    simp only [List.cons.injEq, and_true] at z0 z1 z2 z3 z4
    subst z0 z1 z2 z3 z4
    have hcs : cs = [.int .i64 a0, .int .i64 a1, .int .i64 a2, .int .i64 a3, .string a4, c5] := by
      match cs, hl with
      | [_, _, _, _, _, _], _ =>
        simp at e0 e1 e2 e3 e4 e5
        simp [e0, e1, e2, e3, e4, e5]
    have key : ∃ ks, KR (memOf W) ks c5 := by
      rcases DataW.trod_slice Tryd.underlying22 t5 with ⟨h0, _⟩ | ⟨a, len, cap, elems, rest, k, hk, h0, _, hb, hle, hm, hlen', hel, _⟩
      · simp only [List.cons.injEq, and_true] at h0
        subst h0
        exact ⟨[], KR.nil _ _ _⟩
      · simp only [List.cons.injEq, and_true] at h0
        subst h0
        have hex : ∀ i, i < len → ∃ y : T × Value, MCells (memOf W) (a.add (i * 6)) (encT y.1 y.2) ∧ KR (memOf W) y.1.kids y.2 := fun i hi => by
          have he := hel i hi
          rw [List.getElem?_eq_getElem (show i < elems.length by omega)] at he
          obtain ⟨cs', hc, ht'⟩ := Option.bind_eq_some_iff.1 he
          obtain ⟨t, u, rfl, hkr⟩ := ih k (by omega) ht'
          refine ⟨(t, u), fun j v hv => ?_, hkr⟩
          obtain ⟨_, hcl, hat⟩ := World.cells?_some hc
          have hs : Tryd.prog.cellsOf 24 = 6 := by kernel_rfl
          rw [hs] at hat hcl
          have hj : j < 6 := by
            have := (List.getElem?_eq_some_iff.1 hv).1
            simpa using this
          have := hat j hj
          rw [hv] at this
          exact MCell.of_cell this
        obtain ⟨l, hl1, hl2⟩ := exists_list len hex
        refine ⟨l.map (·.1), ?_⟩
        have e : len = (l.map (·.1)).length := by simp [hl1]
        rw [e]
        refine .mk _ (some a) cap (fun i => match l[i]? with | some y => y.2 | none => undef) (by rw [← e]; exact hle) (fun i t hi => ?_) (fun i t hi => ?_) (fun i t hi => ?_)
        · rw [List.getElem?_map] at hi
          cases hy : l[i]? with
          | none => rw [hy] at hi; cases hi
          | some y =>
            rw [hy] at hi; cases hi
            exact ⟨a, rfl, (hl2 i y hy).1⟩
        · rw [List.getElem?_map] at hi
          cases hy : l[i]? with
          | none => rw [hy] at hi; cases hi
          | some y => simp only; exact (hl2 i y hy).2.one
        · rw [List.getElem?_map] at hi
          cases hy : l[i]? with
          | none => rw [hy] at hi; cases hi
          | some y =>
            rw [hy] at hi; cases hi
            exact (hl2 i y hy).2
    obtain ⟨ks, hks⟩ := key
    exact ⟨.mk a0 a1 a2 a3 a4 ks, c5, hcs, hks⟩
/-- a tree as an argument -/
theorem open_node {r : Reach} {b0 : Nat} {v : Value} {d : DataW H} {p : List MemPlace} (hv : Value.okWide Tryd.prog W r b0 24 v) (h : DataW.Trod enc Tryd.prog W 0 (fun _ => true) true 24 v d p) : ∃ t : T, TV (memOf W) t v := by
  obtain ⟨fuel, hf⟩ := h
  obtain ⟨t, u, hc, hk⟩ := node_read fuel hf
  obtain ⟨cs, rfl, _⟩ := okWide_struct Tryd.underlying24 hv
  have hc : cs.toList = encT t u := by simpa [Value.cells] using hc
  exact ⟨t, u, by rw [← hc], hk⟩
end
end Go.Proofs.YtllilkcocfalmaaDoor
