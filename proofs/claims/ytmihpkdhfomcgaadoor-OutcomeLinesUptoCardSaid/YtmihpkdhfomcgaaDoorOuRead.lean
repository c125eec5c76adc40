/- An outcome as the row reads it, with the bulk of what is read. No statement of the seat is proved here. -/
import Derived.Test.YtmihpkdhfomcgaaDoorRead
import Derived.Test.YtmihpkdhfomcgaaDoorMa
import Derived.Test.YtmihpkdhfomcgaaDoorMf
import Derived.Test.YtmihpkdhfomcgaaDoorRows
set_option maxRecDepth 20000
namespace Go.Proofs.YtmihpkdhfomcgaaDoor
open Go.ChangeShapes Go.WideShapes Go.ChangeAt Go.RowKit Go.Deep Go.Vcg Ou
theorem bulk_part {H : Type} {d : DataW H} {l : List (DataW H)} (h : d ∈ l) : Rows.uptoBulk d ≤ Rows.uptoBulkAll l := by
  induction l with
  | nil => cases h
  | cons x l ih =>
    simp only [Rows.uptoBulkAll]
    rcases List.mem_cons.1 h with rfl | h
    · omega
    · have := ih h; omega
theorem bulk_string {H : Type} {bytes : List UInt8} {B : Nat} (h : Rows.uptoBulk (DataW.lit (H := H) (.string bytes)) ≤ B) : bytes.length ≤ B := by
  simp [Rows.uptoBulk] at h
  omega
section
variable {H : Type} {enc : TypeId × Value → H} {W : World} {base : Nat} {spare : Nat → Bool} {held : Bool} {B : Nat}
/-- a slice's cells, with the bulk of each element -/
theorem slice_bulk {α : Type} {t e s fuel : Nat} {encv : α → List Value} {q : α → Prop} {cs : List Value} {x : DataW H × List MemPlace} (ht : Tryd.prog.underlying t = some (.slice e)) (hs : Tryd.prog.cellsOf e = s)
    (hel : ∀ (fuel : Nat) (cs : List Value) (x : DataW H × List MemPlace), DataW.trod enc Tryd.prog W 0 (fun _ => true) true fuel e cs = some x → Rows.uptoBulk x.1 ≤ B → ∃ y, cs = encv y ∧ q y)
    (h : DataW.trod enc Tryd.prog W 0 (fun _ => true) true fuel t cs = some x) (hb : Rows.uptoBulk x.1 ≤ B) : ∃ A n c l, cs = [.slice A n c] ∧ Sl encv s (memOf W) A n l ∧ n ≤ c ∧ c ≤ maxLen ∧ ∀ x ∈ l, q x := by
  rcases open_slice ht h with ⟨rfl, _⟩ | ⟨a, n, c, m, k, D, Pl, rfl, _, hl, hm, hmm, hx, hi⟩
  · exact ⟨none, 0, 0, [], rfl, Sl.nil _ _ _ _, Nat.le_refl _, Nat.zero_le _, by simp⟩
  · simp at hmm
    have hd : x.1 = .slice ((List.range n).map D) ((List.range (m - n)).map fun j => D (n + j)) := by rw [hx]
    rw [hd] at hb
    simp only [Rows.uptoBulk] at hb
    have hwi : ∀ i, i < n → Rows.uptoBulk (D i) ≤ B := fun i hin => by
      have := bulk_part (d := D i) (l := (List.range n).map D) (List.mem_map.2 ⟨i, List.mem_range.2 hin, rfl⟩)
      omega
    have hex : ∀ i, i < n → ∃ y, MCells (memOf W) (a.add (i * s)) (encv y) ∧ q y := fun i hin => by
      obtain ⟨cs', hc, ht'⟩ := hi i (by omega)
      obtain ⟨y, rfl, hq⟩ := hel _ _ _ ht' (hwi i hin)
      refine ⟨y, fun j u hu => ?_, hq⟩
      obtain ⟨_, hcl, hat⟩ := World.cells?_some hc
      rw [hs] at hat hcl
      have hj : j < s := by
        have := (List.getElem?_eq_some_iff.1 hu).1
        omega
      have := hat j hj
      rw [hu] at this
      exact MCell.of_cell this
    obtain ⟨l, hl1, hl2⟩ := exists_list n hex
    refine ⟨some a, n, c, l, rfl, ⟨hl1, fun _ => ⟨a, rfl, fun i x hx => (hl2 i x hx).1⟩⟩, hl, hm, fun x hx => ?_⟩
    obtain ⟨i, hi1⟩ := List.mem_iff_getElem?.1 hx
    exact (hl2 i x hi1).2
theorem str_bulk {fuel : Nat} {cs : List Value} {x : DataW H × List MemPlace} (h : DataW.trod enc Tryd.prog W base spare held fuel 9 cs = some x) (hb : Rows.uptoBulk x.1 ≤ B) : ∃ s : ByteArray, cs = encStr s ∧ s.size ≤ B := by
  obtain ⟨s, h1, h2, _⟩ := DataW.trod_string Tryd.underlying9 h
  subst h2
  have := bulk_string hb
  exact ⟨s, h1, this⟩
theorem key_bulk {fuel : Nat} {cs : List Value} {x : DataW H × List MemPlace} (h : DataW.trod enc Tryd.prog W base spare held fuel 46 cs = some x) (hb : Rows.uptoBulk x.1 ≤ B) : ∃ k : KeyP, cs = [.int .i64 k.kind, .int .i64 k.n, .string k.s] ∧ k.s.size ≤ B := by
  obtain ⟨xs, n, _, hx, hlen, hxl, hf⟩ := DataW.trod_struct Tryd.underlying46 h
  have hl : cs.length = 3 := hlen.trans (by kernel_rfl)
  have fa := field_at' (t := 46) (by kernel_rfl) (by rw [hl]; rfl) hxl hf
  obtain ⟨c0, y0, e0, t0, g0⟩ := fa 0 _ rfl
  obtain ⟨c1, y1, e1, t1, g1⟩ := fa 1 _ rfl
  obtain ⟨c2, y2, e2, t2, g2⟩ := fa 2 _ rfl
  obtain ⟨a0, z0, u0, _⟩ := DataW.trod_int Tryd.underlying3 t0
  obtain ⟨a1, z1, u1, _⟩ := DataW.trod_int Tryd.underlying3 t1
  obtain ⟨a2, z2, u2, _⟩ := DataW.trod_string Tryd.underlying9 t2
  simp only [List.cons.injEq, and_true] at z0 z1 z2
  subst z0 z1 z2
  refine ⟨⟨a0, a1, a2⟩, ?_, ?_⟩
  · match cs, hl with
    | [_, _, _], _ =>
      simp at e0 e1 e2
      simp [e0, e1, e2]
  · have hd : x.1 = .agg (xs.map (·.1)) := congrArg Prod.fst hx
    have hm : y2.1 ∈ xs.map (·.1) := List.mem_map.2 ⟨y2, List.mem_of_getElem? g2, rfl⟩
    have := bulk_part hm
    rw [hd, Rows.uptoBulk] at hb
    subst u2
    have := bulk_string (B := B) (H := H) (bytes := a2.data.toList) (by dsimp only at this; omega)
    exact this
theorem ev_bulk {fuel : Nat} {cs : List Value} {x : DataW H × List MemPlace} (h : DataW.trod enc Tryd.prog W base spare held fuel 48 cs = some x) (hb : Rows.uptoBulk x.1 ≤ B) : ∃ e : EvP, cs = encE e ∧ (e.key.s.size ≤ B ∧ e.s.size ≤ B) := by
  obtain ⟨xs, n, _, hx, hlen, hxl, hf⟩ := DataW.trod_struct Tryd.underlying48 h
  have hl : cs.length = 5 := hlen.trans (by kernel_rfl)
  have ki : Tryd.prog.cellsOf 3 = 1 := by kernel_rfl
  have kk : Tryd.prog.cellsOf 46 = 3 := by kernel_rfl
  have ks : Tryd.prog.cellsOf 9 = 1 := by kernel_rfl
  have hxl3 : xs.length = 3 := hxl
  have hd : x.1 = .agg (xs.map (·.1)) := congrArg Prod.fst hx
  match cs, hl, xs, hxl3, hf, hd with
  | [c0, c1, c2, c3, c4], _, [x0, x1, x2], _, hf, hd =>
    have f0 := hf 0 _ rfl
    have f1 := hf 1 _ rfl
    have f2 := hf 2 _ rfl
    change DataW.trod enc Tryd.prog W base spare held n 3 (([c0, c1, c2, c3, c4].drop 0).take (Tryd.prog.cellsOf 3)) = some x0 at f0
    change DataW.trod enc Tryd.prog W base spare held n 46 (([c0, c1, c2, c3, c4].drop 1).take (Tryd.prog.cellsOf 46)) = some x1 at f1
    change DataW.trod enc Tryd.prog W base spare held n 9 (([c0, c1, c2, c3, c4].drop 4).take (Tryd.prog.cellsOf 9)) = some x2 at f2
    rw [ki] at f0
    rw [kk] at f1
    rw [ks] at f2
    simp only [List.drop, List.take] at f0 f1 f2
    rw [hd] at hb
    simp only [List.map_cons, List.map_nil, Rows.uptoBulk, Rows.uptoBulkAll] at hb
    obtain ⟨a0, z0, u0, _⟩ := DataW.trod_int Tryd.underlying3 f0
    obtain ⟨k, z1, hk⟩ := key_bulk (B := B) f1 (by omega)
    obtain ⟨a2, z2, hs⟩ := str_bulk (B := B) f2 (by omega)
    simp only [encStr, List.cons.injEq, and_true] at z0 z1 z2
    obtain ⟨rfl, rfl, rfl⟩ := z1
    subst z0 z2
    exact ⟨⟨a0, k, a2⟩, rfl, hk, hs⟩
/-- what the bulk says of an outcome -/
def OutQ (B : Nat) (o : OutP) : Prop := o.text.size ≤ B ∧ (∀ s ∈ o.out, s.size ≤ B) ∧ ∀ e ∈ o.log, e.key.s.size ≤ B ∧ e.s.size ≤ B
theorem open_out {r : Reach} {b0 : Nat} {v : Value} {d : DataW H} {p : List MemPlace} (hv : Value.okWide Tryd.prog W r b0 27 v) (h : DataW.Trod enc Tryd.prog W 0 (fun _ => true) true 27 v d p) (hb : Rows.uptoBulk d ≤ B) :
    ∃ o A B' c d', v = .agg (encO o A B' c d').toArray ∧ Sl encStr 1 (memOf W) A o.out.length o.out ∧ Sl encE 5 (memOf W) B' o.log.length o.log ∧ (o.out.length ≤ c ∧ c ≤ maxLen) ∧ (o.log.length ≤ d' ∧ d' ≤ maxLen) ∧ OutQ B o := by
  obtain ⟨cs, rfl, _⟩ := okWide_struct Tryd.underlying27 hv
  obtain ⟨fuel, hf⟩ := h
  simp only [Value.cells] at hf
  generalize hcs : cs.toList = l at hf
  obtain rfl : cs = l.toArray := by rw [← hcs]
  obtain ⟨xs, n, _, hx, hlen, hxl, hf⟩ := DataW.trod_struct Tryd.underlying27 hf
  have hl : l.length = 8 := hlen.trans (by kernel_rfl)
  have fa := field_at' (t := 27) (by kernel_rfl) (by rw [hl]; rfl) hxl hf
  obtain ⟨c0, y0, e0, t0, g0⟩ := fa 0 _ rfl
  obtain ⟨c1, y1, e1, t1, g1⟩ := fa 1 _ rfl
  obtain ⟨c2, y2, e2, t2, g2⟩ := fa 2 _ rfl
  obtain ⟨c3, y3, e3, t3, g3⟩ := fa 3 _ rfl
  obtain ⟨c4, y4, e4, t4, g4⟩ := fa 4 _ rfl
  obtain ⟨c5, y5, e5, t5, g5⟩ := fa 5 _ rfl
  obtain ⟨c6, y6, e6, t6, g6⟩ := fa 6 _ rfl
  obtain ⟨c7, y7, e7, t7, g7⟩ := fa 7 _ rfl
  have hd : d = .agg (xs.map (·.1)) := congrArg Prod.fst hx
  rw [hd, Rows.uptoBulk] at hb
  have hbp : ∀ (i : Nat) (y : DataW H × List MemPlace), xs[i]? = some y → Rows.uptoBulk y.1 ≤ B := fun i y hy => by
    have := bulk_part (l := xs.map (·.1)) (List.mem_map.2 ⟨y, List.mem_of_getElem? hy, rfl⟩)
    omega
  obtain ⟨a0, z0, u0, _⟩ := DataW.trod_int Tryd.underlying23 t0
  obtain ⟨a1, z1, u1, _⟩ := DataW.trod_int Tryd.underlying3 t1
  obtain ⟨a2, z2, u2, _⟩ := DataW.trod_int Tryd.underlying3 t2
  obtain ⟨a3, z3, q3⟩ := str_bulk (B := B) t3 (hbp _ _ g3)
  obtain ⟨A4, n4, cc4, l4, z4, s4, r4, m4, q4⟩ := slice_bulk (B := B) (encv := encStr) (q := fun s => s.size ≤ B) Tryd.underlying24 (by kernel_rfl) (fun _ _ _ h hb => str_bulk h hb) t4 (hbp _ _ g4)
  obtain ⟨A5, n5, cc5, l5, z5, s5, r5, m5, q5⟩ := slice_bulk (B := B) (encv := encE) (q := fun e => e.key.s.size ≤ B ∧ e.s.size ≤ B) Tryd.underlying25 (by kernel_rfl) (fun _ _ _ h hb => ev_bulk h hb) t5 (hbp _ _ g5)
  obtain ⟨a6, z6, u6, _⟩ := DataW.trod_int Tryd.underlying3 t6
  obtain ⟨a7, z7, u7, _⟩ := DataW.trod_int Tryd.underlying3 t7
  simp only [encStr, List.cons.injEq, and_true] at z0 z1 z2 z3 z4 z5 z6 z7
  subst z0 z1 z2 z3 z4 z5 z6 z7
  obtain rfl := s4.1
  obtain rfl := s5.1
  refine ⟨⟨a0, a1, a2, a3, l4, l5, a6, a7⟩, A4, A5, cc4, cc5, ?_, s4, s5, ⟨r4, m4⟩, ⟨r5, m5⟩, q3, q4, q5⟩
  congr 2
  match l, hl with
  | [_, _, _, _, _, _, _, _], _ =>
    simp at e0 e1 e2 e3 e4 e5 e6 e7
    simp [encO, e0, e1, e2, e3, e4, e5, e6, e7]
end
end Go.Proofs.YtmihpkdhfomcgaaDoor
