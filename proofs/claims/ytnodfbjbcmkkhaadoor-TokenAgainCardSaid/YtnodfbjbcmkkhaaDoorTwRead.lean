/- A token, and a list of tokens, as the row reads them, with what the row says of their sizes. No statement of the seat is proved here. -/
import Derived.Test.YtnodfbjbcmkkhaaDoorRead
import Derived.Test.YtnodfbjbcmkkhaaDoorTk3
import Derived.Lay
import Derived.LaidOnce
import Derived.SevenTiedAt
import Derived.Test.YtnodfbjbcmkkhaaDoorTie
import Derived.Test.YtnodfbjbcmkkhaaDoorCards
set_option maxRecDepth 20000
namespace Go.Vcg
open Go.ChangeShapes Go.WideShapes Go.ChangeAt Go.RowKit Go.Deep
section
variable {H : Type} {enc : TypeId × Value → H} {P : Program} {W : World}
theorem mem_weightsAll {e : TypeId} {x : Nat} {d : DataW H} : ∀ {l : List (DataW H)}, d ∈ l → x ∈ d.weights P e → x ∈ DataW.weightsAll P e l
  | c :: r, hd, hx => by
    rw [DataW.weightsAll]
    rcases List.mem_cons.1 hd with rfl | hd
    · exact List.mem_append_left _ hx
    · exact List.mem_append_right _ (mem_weightsAll hd hx)
/-- A slice that is read: its elements' cells, and what is known of each out of the weights. -/
theorem read_sliceQ {α : Type} {t e s B : Nat} {encv : α → List Value} {q : α → Prop} {v : Value} {d : DataW H} {p : List MemPlace} (ht : P.underlying t = some (.slice e)) (hs : P.cellsOf e = s)
    (hel : ∀ (fuel : Nat) (cs : List Value) (x : DataW H × List MemPlace), DataW.trod enc P W 0 (fun _ => true) true fuel e cs = some x → (x.1.weights P e).all (· ≤ B) = true → ∃ y, cs = encv y ∧ q y)
    {r : Reach} {b0 : Nat} (hv : Value.okWide P W r b0 t v) (h : DataW.Trod enc P W 0 (fun _ => true) true t v d p) (hw : (d.weights P t).all (· ≤ B) = true) : ∃ A n c l, v = .slice A n c ∧ Sl encv s (memOf W) A n l ∧ n ≤ maxLen ∧ ∀ x ∈ l, q x := by
  obtain ⟨A, n, c, rfl⟩ := okWide_slice ht hv
  obtain ⟨fuel, hf⟩ := h
  rcases open_slice ht hf with ⟨hcs, _⟩ | ⟨a, len, cap, m, k, D, Pl, hcs, _, hl, hm, hmm, hx, hi⟩
  · simp [Value.cells] at hcs
    obtain ⟨rfl, rfl, rfl⟩ := hcs
    exact ⟨none, 0, 0, [], rfl, Sl.nil _ _ _ _, by simp, by simp⟩
  · simp [Value.cells] at hcs
    obtain ⟨rfl, rfl, rfl⟩ := hcs
    simp at hmm
    obtain rfl := congrArg Prod.fst hx
    simp only at hw
    rw [DataW.weights, ht] at hw
    simp only at hw
    have hwi : ∀ i, i < n → ((D i).weights P e).all (· ≤ B) = true := fun i hin => by
      refine List.all_eq_true.2 fun z hz => List.all_eq_true.1 hw z ?_
      refine List.mem_cons_of_mem _ (List.mem_append_left _ (mem_weightsAll (d := D i) ?_ hz))
      exact List.mem_map.2 ⟨i, List.mem_range.2 hin, rfl⟩
    have hex : ∀ i, i < n → ∃ y, MCells (memOf W) (a.add (i * s)) (encv y) ∧ q y := fun i hin => by
      obtain ⟨cs', hc, ht'⟩ := hi i (by omega)
      obtain ⟨y, rfl, hq⟩ := hel _ _ _ ht' (hwi i hin)
      refine ⟨y, fun j u hu => ?_, hq⟩
      obtain ⟨_, hcl, hat⟩ := World.cells?_some hc
      rw [hs] at hat hcl
      have hj : j < s := by
        have := (List.getElem?_eq_some_iff.1 hu).1
        omega
      have := hat j hj
      rw [hu] at this
      exact MCell.of_cell this
    obtain ⟨l, hl1, hl2⟩ := exists_list n hex
    refine ⟨some a, n, c, l, rfl, ⟨hl1, fun _ => ⟨a, rfl, fun i x hx => (hl2 i x hx).1⟩⟩, by omega, fun x hx => ?_⟩
    obtain ⟨i, hi1, rfl⟩ := List.mem_iff_getElem.1 hx
    exact (hl2 i _ (List.getElem?_eq_getElem hi1)).2
end
end Go.Vcg
namespace Go.Proofs.YtnodfbjbcmkkhaaDoor
open Go.ChangeShapes Go.WideShapes Go.ChangeAt Go.RowKit Go.Deep Go.Vcg
theorem i64_bounds {n : Int} (h : (Lit.int .i64 n).wf = true) : -9223372036854775808 ≤ n ∧ n ≤ 9223372036854775807 := by
  simp only [Lit.wf, Bool.and_eq_true, decide_eq_true_eq] at h
  simpa [IntKind.min, IntKind.max, IntKind.signed, IntKind.bits] using h
section
variable {H : Type} {enc : TypeId × Value → H} {W : World} {base : Nat} {spare : Nat → Bool} {held : Bool}
def TokQ (t : Tok) : Prop := t.s.size ≤ 140737488355328 ∧ -9223372036854775808 ≤ t.n ∧ t.n ≤ 9223372036854775807
theorem tok_read {fuel : Nat} {cs : List Value} {x : DataW H × List MemPlace} (h : DataW.trod enc Tryd.prog W base spare held fuel 23 cs = some x) : ∃ tk : Tok, cs = encTok tk ∧ (-9223372036854775808 ≤ tk.n ∧ tk.n ≤ 9223372036854775807) ∧ tk.s.size ∈ x.1.weights Tryd.prog 23 := by
  obtain ⟨xs, n, _, hx, hlen, hxl, hf⟩ := DataW.trod_struct Tryd.underlying23 h
  have hl : cs.length = 7 := hlen.trans (by kernel_rfl)
  have fa := field_at' (t := 23) (by kernel_rfl) (by rw [hl]; rfl) hxl hf
  obtain ⟨c0, y0, e0, t0, g0⟩ := fa 0 _ rfl
  obtain ⟨c1, y1, e1, t1, g1⟩ := fa 1 _ rfl
  obtain ⟨c2, y2, e2, t2, g2⟩ := fa 2 _ rfl
  obtain ⟨c3, y3, e3, t3, g3⟩ := fa 3 _ rfl
  obtain ⟨c4, y4, e4, t4, g4⟩ := fa 4 _ rfl
  obtain ⟨c5, y5, e5, t5, g5⟩ := fa 5 _ rfl
  obtain ⟨c6, y6, e6, t6, g6⟩ := fa 6 _ rfl
  obtain ⟨a0, z0, u0, _⟩ := DataW.trod_int Tryd.underlying3 t0
  obtain ⟨a1, z1, u1, _⟩ := DataW.trod_int Tryd.underlying3 t1
  obtain ⟨a2, z2, u2, _⟩ := DataW.trod_int Tryd.underlying3 t2
  obtain ⟨a3, z3, u3, w3⟩ := DataW.trod_int Tryd.underlying3 t3
  obtain ⟨a4, z4, u4, _⟩ := DataW.trod_string Tryd.underlying9 t4
  obtain ⟨a5, z5, u5⟩ := DataW.trod_bool Tryd.underlying4 t5
  obtain ⟨a6, z6, u6⟩ := DataW.trod_bool Tryd.underlying4 t6
  simp only [List.cons.injEq, and_true] at z0 z1 z2 z3 z4 z5 z6
  subst z0 z1 z2 z3 z4 z5 z6 u0 u1 u2 u3 u4 u5 u6
  refine ⟨⟨a0, a1, a2, a3, a4, a5, a6⟩, ?_, i64_bounds w3, ?_⟩
  · match cs, hl with
    | [_, _, _, _, _, _, _], _ =>
      simp at e0 e1 e2 e3 e4 e5 e6
      simp [e0, e1, e2, e3, e4, e5, e6]
  · have hxs : xs = [(.lit (.int .i64 a0), []), (.lit (.int .i64 a1), []), (.lit (.int .i64 a2), []), (.lit (.int .i64 a3), []), (.lit (.string a4.data.toList), []), (.lit (.bool a5), []), (.lit (.bool a6), [])] := by
      have h7 : xs.length = 7 := hxl
      match xs, h7 with
      | [_, _, _, _, _, _, _], _ =>
        simp at g0 g1 g2 g3 g4 g5 g6
        rw [g0, g1, g2, g3, g4, g5, g6]
    subst hxs
    have hd : x.1 = .agg [.lit (.int .i64 a0), .lit (.int .i64 a1), .lit (.int .i64 a2), .lit (.int .i64 a3), .lit (.string a4.data.toList), .lit (.bool a5), .lit (.bool a6)] := congrArg Prod.fst hx
    rw [hd, DataW.weights, Tryd.underlying23]
    show _ ∈ DataW.weightsEach Tryd.prog [3, 3, 3, 3, 9, 4, 4] _
    simp [DataW.weightsEach, DataW.weights]
theorem tok_readQ {fuel : Nat} {cs : List Value} {x : DataW H × List MemPlace} (h : DataW.trod enc Tryd.prog W base spare held fuel 23 cs = some x) (hw : (x.1.weights Tryd.prog 23).all (· ≤ reachBytes) = true) : ∃ tk : Tok, cs = encTok tk ∧ TokQ tk := by
  obtain ⟨tk, h1, h2, h3⟩ := tok_read h
  have := of_decide_eq_true (List.all_eq_true.1 hw _ h3)
  unfold reachBytes at this
  exact ⟨tk, h1, by omega, h2⟩
theorem open_tokQ {r : Reach} {b0 : Nat} {v : Value} {d : DataW H} {p : List MemPlace} (hv : Value.okWide Tryd.prog W r b0 23 v) (h : DataW.Trod enc Tryd.prog W base spare held 23 v d p) (hw : (d.weights Tryd.prog 23).all (· ≤ reachBytes) = true) : ∃ tk : Tok, v = .agg (encTok tk).toArray ∧ TokQ tk := by
  obtain ⟨cs, rfl, _⟩ := okWide_struct Tryd.underlying23 hv
  obtain ⟨fuel, hf⟩ := h
  obtain ⟨tk, htk, hq⟩ := tok_readQ hf hw
  refine ⟨tk, ?_, hq⟩
  simp only [Value.cells] at htk
  rw [← htk]
theorem open_toksQ {r : Reach} {b0 : Nat} {v : Value} {d : DataW H} {p : List MemPlace} (hv : Value.okWide Tryd.prog W r b0 24 v) (h : DataW.Trod enc Tryd.prog W 0 (fun _ => true) true 24 v d p) (hw : (d.weights Tryd.prog 24).all (· ≤ reachBytes) = true) :
    ∃ A n c ts, v = .slice A n c ∧ Sl encTok 7 (memOf W) A n ts ∧ n ≤ maxLen ∧ ∀ x ∈ ts, TokQ x :=
  read_sliceQ Tryd.underlying24 (by kernel_rfl) (fun _ _ _ h hw => tok_readQ h hw) hv h hw
end
end Go.Proofs.YtnodfbjbcmkkhaaDoor
