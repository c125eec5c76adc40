/- From the world's shape to the words of the walk. -/
import Derived.Test.YtoclmkdfcafhfaaGreatDoorQat
import Derived.Shelf.Vars
import Derived.Lay
import Derived.LaidOnce
import Derived.SevenTiedAt
import Derived.Test.YtoclmkdfcafhfaaGreatDoorTie
import Derived.Test.YtoclmkdfcafhfaaGreatDoorCards
import Derived.Laws.IdiomStrings
set_option maxRecDepth 20000
set_option maxHeartbeats 2000000
namespace Go.Proofs.YtoclmkdfcafhfaaGreatDoor
open Go.ChangeShapes Go.WideShapes Go.ChangeAt Go.RowKit Go.Deep Go.Vcg
theorem i64_bounds {n : Int} (h : (Lit.int .i64 n).wf = true) : -9223372036854775808 ≤ n ∧ n ≤ 9223372036854775807 := by
  simp only [Lit.wf, Bool.and_eq_true, decide_eq_true_eq] at h
  simpa [IntKind.min, IntKind.max, IntKind.signed, IntKind.bits] using h
end Go.Proofs.YtoclmkdfcafhfaaGreatDoor
namespace Go.Vcg
open Go.RowKit
section
variable {P : Program} {X : Ctx} {ops : Array Oper} {Q : Exit → Act → World → Prop} {rest : List Oper} {μ : Mem} {l : Slots} {L : List Bk} {a : Act} {w : World} {o : Oper} {d : Nat}
variable {ty : TypeId} {pos : String} {af : Array Edge} {gd : Option (Nat × Bool)} {ds : Option Nat}
theorem g_mkrow {t e : TypeId} {z : Value} {bytes : Nat} {p q : Operand} {x y : Int} (N : Nat) (xs : List Value) (hn : Nat.blt d X.n = true) (hw : wants ops l ⟨some d, .makeSlice t p q, ty, pos, af, gd⟩ = some true)
    (hp : ev l p = some (.int .i64 x)) (hq : ev l q = some (.int .i64 y)) (hx : x = (N : Int)) (hy : y = (N : Int)) (ht : P.underlying t = some (.slice e)) (hinfo : (P.info? e).map (fun i => (i.zero, i.size, i.bytes)) = some (some z, 1, bytes)) (hz1 : z.cells = #[z])
    (hbytes : bytes * N ≤ 281474976710656) (h63 : N ≤ 9223372036854775807) (hxs : xs = List.replicate N z)
    (h : ∀ b, G P X ops Q rest μ ((d, .slice (some ⟨b, 0, none⟩) N N) :: l) (.inr ⟨.slice (some ⟨b, 0, none⟩) N N, e, 1, N, xs⟩ :: L)) : G P X ops Q (⟨some d, .makeSlice t p q, ty, pos, af, gd⟩ :: rest) μ l L :=
  g_wp hw fun a w hs => by
    have e1 := hs.eval hp; have e2 := hs.eval hq
    have e0 : (execOp a.eval ⟨some d, .makeSlice t p q, ty, pos, af, gd⟩).run P w = .ok (.value (.slice (some ⟨w.heap.size, 0, none⟩) N N)) (w.alloc (.cells (madeCells #[z] N) e)) := by
      generalize a.eval = ρ at e1 e2
      subst hx hy
      simp [execOp, e1, e2, run_make_row' t e z bytes ht hinfo hz1 .i64 .i64 N hbytes h63 w]
    unfold Oper.wp
    rw [e0, Oper.upon_value]
    have hl : xs.length = N := by rw [hxs, List.length_replicate]
    refine h _ _ _ ((hs.newB _ (.inr ⟨.slice (some ⟨w.heap.size, 0, none⟩) N N, e, 1, N, xs⟩) rfl ?_).put hn _)
    refine ⟨by show xs.length = N * 1; omega, .inr ⟨w.heap.size, N, madeCells #[z] N, rfl, Nat.zero_le _, heap_alloc_new w _, Nat.le_refl _, h63, ?_, ?_⟩⟩
    · rw [size_madeCells]; exact (Nat.mul_one N).symm
    · rw [toList_madeCells_one, hxs, Nat.mul_one]
      exact List.take_of_length_le (by simp)
theorem v_rem_at {p q : Operand} {t t2 : TypeId} {k : IntKind} {x y r : Int} (hx0 : ev l p = some (.int k x)) (hx1 : ev l q = some (.int k y)) (hy : y ≠ 0) (hr : x.tmod y = r) : Val P μ l L ⟨ds, .binOp .rem t p q t2, ty, pos, af, gd⟩ (.int k r) := by
  subst hr
  exact v_rem hx0 hx1 hy
end
end Go.Vcg
namespace Go.Proofs.YtoclmkdfcafhfaaGreatDoor
open Go.RowKit Go.Vcg Ou
theorem kids_drop1 {μ : Mem} {ks : List T} {A : Option Addr} {n c : Nat} (h : KR μ ks (.slice A n c)) (hn : 1 ≤ n) : KR μ (ks.drop 1) (.slice (if c = 1 then A else A.map (·.add (1 * 6))) (n - 1) (c - 1)) := by
  cases h with
  | mk _ A c vs hcap hcell hone hsub =>
    have e : (ks.drop 1).length = ks.length - 1 := by simp
    have h0 : ∀ (i : Nat) (t : T), (ks.drop 1)[i]? = some t → ks[1 + i]? = some t := fun i t hi => by simpa [Nat.add_comm] using hi
    have := KR.mk (μ := μ) (ks.drop 1) (if c = 1 then A else A.map (·.add (1 * 6))) (c - 1) (fun i => vs (1 + i)) (by omega) (fun i t hi => ?_) (fun i t hi => hone _ t (h0 i t hi)) (fun i t hi => hsub _ t (h0 i t hi))
    · rw [e] at this
      exact this
    · obtain ⟨a, e, hc⟩ := hcell _ t (h0 i t hi)
      have : 1 + i < ks.length := (List.getElem?_eq_some_iff.1 (h0 i t hi)).1
      rw [if_neg (by omega), e]
      refine ⟨_, rfl, ?_⟩
      rw [add_add', ← Nat.add_mul]
      exact hc
theorem dropc {α : Type} {l : List α} {j : Nat} {t : α} (h : l[j]? = some t) : l.drop j = t :: l.drop (j + 1) := by
  obtain ⟨hlt, e⟩ := List.getElem?_eq_some_iff.1 h
  rw [← e, List.getElem_cons_drop]
def starB (c : UInt8) (r : List UInt8) (l : List Int) : Bool := (l.take (l.length - r.length)).all (Iq.fitB c) && Iq.kidsB r (l.drop (l.length - r.length))
theorem kids_star (c : UInt8) (r : List UInt8) (l : List Int) : Iq.kidsB (c :: 42 :: r) l = starB c r l := by
  unfold Iq.kidsB starB
  rw [if_pos rfl]
theorem star_step {c : UInt8} {r : List UInt8} {x : Int} {l : List Int} (h : r.length < (x :: l).length) : starB c r (x :: l) = (Iq.fitB c x && starB c r l) := by
  unfold starB
  have e : (x :: l).length - r.length = (l.length - r.length) + 1 := by simp at h ⊢; omega
  rw [e, List.take_succ_cons, List.all_cons, List.drop_succ_cons, Bool.and_assoc]
theorem star_end {c : UInt8} {r : List UInt8} {l : List Int} (h : l.length ≤ r.length) : starB c r l = Iq.kidsB r l := by
  unfold starB
  rw [Nat.sub_eq_zero_of_le h]
  rfl
theorem kids_one {c : UInt8} {r : List UInt8} (h : r.head? ≠ some 42) (l : List Int) : Iq.kidsB (c :: r) l = match l with
    | [] => false
    | x :: l' => Iq.fitB c x && Iq.kidsB r l' := by
  cases r with
  | nil => cases l <;> rfl
  | cons d r =>
    have hd : ¬ d = 42 := fun e => h (by rw [e]; rfl)
    conv => lhs; unfold Iq.kidsB
    rw [if_neg hd]
    cases l <;> rfl
attribute [local irreducible] starB G GC GQ GA GAop Calls IntKind.wrap Int.decLt Int.decLe
theorem pfits_b (x : Int) (c : UInt8) (op : Int) (b : Bool) (hx : x = c.toNat) (hb : Iq.fitB c op = b) (w : World) (μ : Mem) (hμ : MOk μ w) : Calls Tryz.prog 134 #[.int .u8 x, .int .i64 op] w fun e w' => e = .returned (.bool b) ∧ Below w.heap.size w w' := by
  subst hb
  exact pfits_spec x c op hx w μ hμ
theorem rone_b (x : Int) (c : UInt8) (op : Int) (b : Bool) (hx : x = c.toNat) (hb : Iq.fitB c op = b) (w : World) (μ : Mem) (hμ : MOk μ w) : Calls Tryz.prog 139 #[.int .u8 x, .int .i64 op] w fun e w' => e = .returned (.bool b) ∧ Below w.heap.size w w' := by
  subst hb
  exact rone_spec x c op hx w μ hμ
theorem pkids_spec (sg : List UInt8) (hsg : sg.length ≤ 1000) (ks : List T) (u : Value) (w : World) (μ : Mem) (hμ : MOk μ w) (hu : KR μ ks u) (hk : ks.length ≤ 100000) : Calls Tryz.prog 106 #[.string (ofB sg), u] w fun e w' => e = .returned (.bool (Iq.kidsB sg (ks.map T.op))) ∧ Below w.heap.size w w' := by
  have hu0 := hu
  obtain ⟨A, c, rfl, hc, hget0⟩ := hu.form
  have hsz := of_size sg
  generalize hR : Iq.kidsB sg (ks.map T.op) = R
  refine call_intro (args := [.string (ofB sg), .slice A ks.length c]) Tryz.func106 rfl Tryz.ntmps106 (by simp) hμ ?_
  generalize hn : ks.length = n at *
  repeat' (first | refine KK ?_ | (refine KB ?_ ?_ <;> intro hp) | refine KG ?_ | fail)
  refine gc_loop (ι := Nat × Nat × Option Addr × Nat) (fun i => i.1 ≤ sg.length ∧ i.2.1 ≤ n ∧ KR μ (ks.drop i.2.1) (.slice i.2.2.1 (n - i.2.1) i.2.2.2) ∧ Iq.kidsB (sg.drop i.1) ((ks.drop i.2.1).map T.op) = R) (fun i => sg.length - i.1) (fun _ => μ) (fun i => [(5, .int .i64 (i.1 : Int)), (0, .string (ofB sg)), (1, .slice i.2.2.1 (n - i.2.1) i.2.2.2)]) (fun _ => []) (0, 0, A, c) ⟨by simp, by simp, by simpa [hn] using hu0, by simpa using hR⟩ (fun a w hs => hs.sel PU PS) ?_
  rintro ⟨i, j, Aj, cj⟩ ⟨hi, hj, hkj, hRj⟩
  try dsimp only at hi hj hkj hRj ⊢
  by_cases hlt : i < sg.length
  · obtain ⟨ch, hb1, hb2⟩ := bl_get (s := ofB sg) (i := i) (by omega)
    rw [bl_of] at hb1
    have hds := dropc hb1
    by_cases hst : sg[i + 1]? = some 42
    · have hlt2 : i + 1 < sg.length := (List.getElem?_eq_some_iff.1 hst).1
      have hst2 : bAt (ofB sg) (i + 1) = 42 := by
        have : (bl (ofB sg))[i + 1]? = some 42 := by rw [bl_of]; exact hst
        exact bAt_get this
      rw [hds, dropc hst, kids_star] at hRj
      repeat' (first | refine KO ?_ | (refine KV (b := by first | exact U2 i | exact U2 (i + 1)) (c := ?_)) | refine KI ?_ | (refine KB ?_ ?_ <;> intro hp) | refine KG ?_ | fail)
      all_goals try (exfalso; omega)
      all_goals refine gc_loop (ι := Nat × Option Addr × Nat) (fun q => q.1 ≤ n ∧ KR μ (ks.drop q.1) (.slice q.2.1 (n - q.1) q.2.2) ∧ starB ch (sg.drop (i + 2)) ((ks.drop q.1).map T.op) = R) (fun q => n - q.1) (fun _ => μ) (fun q => [(6, .int .i64 (((ofB sg).size : Int) - (i : Int) - 2)), (5, .int .i64 (i : Int)), (0, .string (ofB sg)), (1, .slice q.2.1 (n - q.1) q.2.2)]) (fun _ => []) (j, Aj, cj) ⟨hj, hkj, hRj⟩ (fun a w hs => hs.sel PU PS) ?_
      rintro ⟨j2, A2, c2⟩ ⟨hj2, hk2, hR2⟩
      try dsimp only at hj2 hk2 hR2 ⊢
      have hdl : (sg.drop (i + 2)).length = sg.length - (i + 2) := List.length_drop
      have hml : ((ks.drop j2).map T.op).length = n - j2 := by rw [List.length_map, List.length_drop, hn]
      by_cases hin : sg.length - (i + 2) < n - j2
      · have hkk : ks[j2]? = some ks[j2] := List.getElem?_eq_getElem (by omega)
        generalize ks[j2] = t at hkk
        have hdt := dropc hkk
        obtain ⟨A', c', e', hlc, hget⟩ := hk2.form
        have hkl : (ks.drop j2).length = n - j2 := by rw [List.length_drop, hn]
        rw [hkl] at e' hlc
        cases e'
        obtain ⟨ad2, x, rfl, hm, ho, hkx⟩ := hget 0 t (by rw [hdt]; rfl)
        have hkt := kids_drop1 hk2 (by omega)
        rw [List.drop_drop] at hkt
        have hml2 : ((ks.drop (j2 + 1)).map T.op).length = n - (j2 + 1) := by rw [List.length_map, List.length_drop, hn]
        rw [hdt, List.map_cons, star_step (by rw [List.length_cons]; omega)] at hR2
        cases hf : Iq.fitB ch t.op
        · rw [hf] at hR2
          rw [Bool.false_and] at hR2
          repeat' (first | refine KK ?_ | (refine KB ?_ ?_ <;> intro hp) | refine KG ?_ | fail)
          all_goals try (exfalso; omega)
          refine gc_draw 9 ([]) (by kernel_rfl) rfl (by first | exact List.Sublist.refl _ | simp) ?_
          all_goals refine DD 0 ?_
          all_goals refine DD 1 ?_
          all_goals (first | refine D1 2 ?_ | (refine DV (k := 2) (b := by first | exact U2 i | exact U1 0 | exact U4 hm) (c := ?_)) | refine DD 2 ?_ | fail)
          all_goals refine DD 3 ?_
          all_goals (first | refine D1 4 ?_ | (refine DV (k := 4) (b := by first | exact U2 i | exact U1 0 | exact U4 hm) (c := ?_)) | refine DD 4 ?_ | fail)
          all_goals (first | refine D1 5 ?_ | (refine DV (k := 5) (b := by first | exact U2 i | exact U1 0 | exact U4 hm) (c := ?_)) | refine DD 5 ?_ | fail)
          all_goals (first | refine D1 6 ?_ | (refine DV (k := 6) (b := by first | exact U2 i | exact U1 0 | exact U4 hm) (c := ?_)) | (refine D3 6 (DW (b := by first | exact U2 i | exact U1 0 | exact U4 hm) (c := ?_))) | refine DD 6 ?_ | fail)
          all_goals (first | (refine D3 7 ?_; refine D5 ?_; (with_reducible apply F1 134); exact rfl; exact EN; (exact fun w μc hw hse => pfits_b _ ch _ _ hb2 hf w μc hw); refine D9 ?_))
          all_goals refine DD 8 ?_
          all_goals refine D8 ?_
          all_goals repeat' (first | refine KO ?_ | (refine KV (b := by first | ((with_reducible apply v_slice_lo 1); exact rfl; exact rfl; exact rfl; exact rfl; exact rfl; omega)) (c := ?_)) | refine KI ?_ | (refine KB ?_ ?_ <;> intro hp) | refine KG ?_ | fail)
          all_goals exact ret_s rfl rfl (congrArg _ hR2)
        · rw [hf] at hR2
          rw [Bool.true_and] at hR2
          have hE := hR2
          repeat' (first | refine KK ?_ | (refine KB ?_ ?_ <;> intro hp) | refine KG ?_ | fail)
          all_goals try (exfalso; omega)
          refine gc_draw 9 ([]) (by kernel_rfl) rfl (by first | exact List.Sublist.refl _ | simp) ?_
          all_goals refine DD 0 ?_
          all_goals refine DD 1 ?_
          all_goals (first | refine D1 2 ?_ | (refine DV (k := 2) (b := by first | exact U2 i | exact U1 0 | exact U4 hm) (c := ?_)) | refine DD 2 ?_ | fail)
          all_goals refine DD 3 ?_
          all_goals (first | refine D1 4 ?_ | (refine DV (k := 4) (b := by first | exact U2 i | exact U1 0 | exact U4 hm) (c := ?_)) | refine DD 4 ?_ | fail)
          all_goals (first | refine D1 5 ?_ | (refine DV (k := 5) (b := by first | exact U2 i | exact U1 0 | exact U4 hm) (c := ?_)) | refine DD 5 ?_ | fail)
          all_goals (first | refine D1 6 ?_ | (refine DV (k := 6) (b := by first | exact U2 i | exact U1 0 | exact U4 hm) (c := ?_)) | (refine D3 6 (DW (b := by first | exact U2 i | exact U1 0 | exact U4 hm) (c := ?_))) | refine DD 6 ?_ | fail)
          all_goals (first | (refine D3 7 ?_; refine D5 ?_; (with_reducible apply F1 134); exact rfl; exact EN; (exact fun w μc hw hse => pfits_b _ ch _ _ hb2 hf w μc hw); refine D9 ?_))
          all_goals refine DD 8 ?_
          all_goals refine D8 ?_
          all_goals repeat' (first | refine KO ?_ | (refine KV (b := by first | ((with_reducible apply v_slice_lo 1); exact rfl; exact rfl; exact rfl; exact rfl; exact rfl; omega)) (c := ?_)) | refine KI ?_ | (refine KB ?_ ?_ <;> intro hp) | refine KG ?_ | fail)
          all_goals exact J2 (j2 + 1, _, _) ⟨by show j2 + 1 ≤ n; omega, hkt, hE⟩ (by show n - (j2 + 1) < n - j2; omega)
      · have hE := hR2
        rw [star_end (by omega)] at hE
        repeat' (first | refine KK ?_ | (refine KB ?_ ?_ <;> intro hp) | refine KG ?_ | fail)
        all_goals try (exfalso; omega)
        all_goals exact J2 (i + 2, j2, _, _) ⟨by show i + 2 ≤ sg.length; omega, hj2, hk2, hE⟩ (by show sg.length - (i + 2) < sg.length - i; omega)
    · have hst2 : i + 1 < sg.length → ¬ bAt (ofB sg) (i + 1) = 42 := fun h e => by
        obtain ⟨ch2, h1, h2⟩ := bl_get (s := ofB sg) (i := i + 1) (by omega)
        rw [bl_of] at h1
        rw [h1] at hst
        exact hst (by rw [show ch2 = 42 from UInt8.toNat_inj.1 (by rw [h2] at e; exact Int.ofNat.inj e)])
      have hhd : (sg.drop (i + 1)).head? ≠ some 42 := by rw [List.head?_drop]; exact hst
      rw [hds, kids_one hhd] at hRj
      by_cases hin : j < n
      · have hkk : ks[j]? = some ks[j] := List.getElem?_eq_getElem (by omega)
        generalize ks[j] = t at hkk
        have hdt := dropc hkk
        obtain ⟨A', c', e', hlc, hget⟩ := hkj.form
        have hkl : (ks.drop j).length = n - j := by rw [List.length_drop, hn]
        rw [hkl] at e' hlc
        cases e'
        obtain ⟨ad2, x, rfl, hm, ho, hkx⟩ := hget 0 t (by rw [hdt]; rfl)
        have hkt := kids_drop1 hkj (by omega)
        rw [List.drop_drop] at hkt
        rw [hdt, List.map_cons] at hRj
        try dsimp only at hRj
        cases hf : Iq.fitB ch t.op
        · rw [hf] at hRj
          rw [Bool.false_and] at hRj
          by_cases hlt2 : i + 1 < sg.length
          all_goals try have hst3 := hst2 hlt2
          all_goals clear hst2
          all_goals repeat' (first | refine KO ?_ | (refine KV (b := by first | exact U2 i | exact U2 (i + 1)) (c := ?_)) | refine KI ?_ | (refine KB ?_ ?_ <;> intro hp) | refine KG ?_ | fail)
          all_goals try (exfalso; omega)
          all_goals (
          refine gc_draw 14 ([]) (by kernel_rfl) rfl (by first | exact List.Sublist.refl _ | simp) ?_
          all_goals refine DD 0 ?_
          all_goals (first | refine D1 1 ?_ | (refine DV (k := 1) (b := by first | exact U2 i | exact U1 0 | exact U4 hm) (c := ?_)) | refine DD 1 ?_ | fail)
          all_goals (first | refine D1 2 ?_ | (refine DV (k := 2) (b := by first | exact U2 i | exact U1 0 | exact U4 hm) (c := ?_)) | refine DD 2 ?_ | fail)
          all_goals refine DD 3 ?_
          all_goals (try (refine D7 4 ?_; (repeat' (first | refine KO ?_ | (refine KB ?_ ?_ <;> intro hp)))))
          all_goals refine DD 4 ?_
          all_goals refine DD 5 ?_
          all_goals (first | refine D1 6 ?_ | (refine DV (k := 6) (b := by first | exact U2 i | exact U1 0 | exact U4 hm) (c := ?_)) | refine DD 6 ?_ | fail)
          all_goals refine DD 7 ?_
          all_goals (first | refine D1 8 ?_ | (refine DV (k := 8) (b := by first | exact U2 i | exact U1 0 | exact U4 hm) (c := ?_)) | refine DD 8 ?_ | fail)
          all_goals (first | refine D1 9 ?_ | (refine DV (k := 9) (b := by first | exact U2 i | exact U1 0 | exact U4 hm) (c := ?_)) | refine DD 9 ?_ | fail)
          all_goals (first | refine D1 10 ?_ | (refine DV (k := 10) (b := by first | exact U2 i | exact U1 0 | exact U4 hm) (c := ?_)) | (refine D3 10 (DW (b := by first | exact U2 i | exact U1 0 | exact U4 hm) (c := ?_))) | refine DD 10 ?_ | fail)
          all_goals (first | (refine D3 11 ?_; refine D5 ?_; (with_reducible apply F1 134); exact rfl; exact EN; (exact fun w μc hw hse => pfits_b _ ch _ _ hb2 hf w μc hw); refine D9 ?_) | refine D3 11 (D6 ?_))
          all_goals refine DD 12 ?_
          all_goals refine DD 13 ?_
          all_goals refine D8 ?_
          all_goals try (exfalso; omega)
          all_goals repeat' (first | refine KO ?_ | (refine KV (b := by first | ((with_reducible apply v_slice_lo 1); exact rfl; exact rfl; exact rfl; exact rfl; exact rfl; omega)) (c := ?_)) | refine KI ?_ | (refine KB ?_ ?_ <;> intro hp) | refine KG ?_ | fail))
          all_goals exact ret_s rfl rfl (congrArg _ hRj)
        · rw [hf] at hRj
          rw [Bool.true_and] at hRj
          have hE := hRj
          by_cases hlt2 : i + 1 < sg.length
          all_goals try have hst3 := hst2 hlt2
          all_goals clear hst2
          all_goals repeat' (first | refine KO ?_ | (refine KV (b := by first | exact U2 i | exact U2 (i + 1)) (c := ?_)) | refine KI ?_ | (refine KB ?_ ?_ <;> intro hp) | refine KG ?_ | fail)
          all_goals try (exfalso; omega)
          all_goals (
          refine gc_draw 14 ([]) (by kernel_rfl) rfl (by first | exact List.Sublist.refl _ | simp) ?_
          all_goals refine DD 0 ?_
          all_goals (first | refine D1 1 ?_ | (refine DV (k := 1) (b := by first | exact U2 i | exact U1 0 | exact U4 hm) (c := ?_)) | refine DD 1 ?_ | fail)
          all_goals (first | refine D1 2 ?_ | (refine DV (k := 2) (b := by first | exact U2 i | exact U1 0 | exact U4 hm) (c := ?_)) | refine DD 2 ?_ | fail)
          all_goals refine DD 3 ?_
          all_goals (try (refine D7 4 ?_; (repeat' (first | refine KO ?_ | (refine KB ?_ ?_ <;> intro hp)))))
          all_goals refine DD 4 ?_
          all_goals refine DD 5 ?_
          all_goals (first | refine D1 6 ?_ | (refine DV (k := 6) (b := by first | exact U2 i | exact U1 0 | exact U4 hm) (c := ?_)) | refine DD 6 ?_ | fail)
          all_goals refine DD 7 ?_
          all_goals (first | refine D1 8 ?_ | (refine DV (k := 8) (b := by first | exact U2 i | exact U1 0 | exact U4 hm) (c := ?_)) | refine DD 8 ?_ | fail)
          all_goals (first | refine D1 9 ?_ | (refine DV (k := 9) (b := by first | exact U2 i | exact U1 0 | exact U4 hm) (c := ?_)) | refine DD 9 ?_ | fail)
          all_goals (first | refine D1 10 ?_ | (refine DV (k := 10) (b := by first | exact U2 i | exact U1 0 | exact U4 hm) (c := ?_)) | (refine D3 10 (DW (b := by first | exact U2 i | exact U1 0 | exact U4 hm) (c := ?_))) | refine DD 10 ?_ | fail)
          all_goals (first | (refine D3 11 ?_; refine D5 ?_; (with_reducible apply F1 134); exact rfl; exact EN; (exact fun w μc hw hse => pfits_b _ ch _ _ hb2 hf w μc hw); refine D9 ?_) | refine D3 11 (D6 ?_))
          all_goals refine DD 12 ?_
          all_goals refine DD 13 ?_
          all_goals refine D8 ?_
          all_goals try (exfalso; omega)
          all_goals repeat' (first | refine KO ?_ | (refine KV (b := by first | ((with_reducible apply v_slice_lo 1); exact rfl; exact rfl; exact rfl; exact rfl; exact rfl; omega)) (c := ?_)) | refine KI ?_ | (refine KB ?_ ?_ <;> intro hp) | refine KG ?_ | fail))
          all_goals exact J2 (i + 1, j + 1, _, _) ⟨by show i + 1 ≤ sg.length; omega, by show j + 1 ≤ n; omega, hkt, hE⟩ (by show sg.length - (i + 1) < sg.length - i; omega)
      · have hdt : ks.drop j = [] := List.drop_of_length_le (by omega)
        rw [hdt] at hRj
        try dsimp only [List.map_nil] at hRj
        by_cases hlt2 : i + 1 < sg.length
        all_goals try have hst3 := hst2 hlt2
        all_goals clear hst2
        all_goals repeat' (first | refine KO ?_ | (refine KV (b := by first | exact U2 i | exact U2 (i + 1)) (c := ?_)) | refine KI ?_ | (refine KB ?_ ?_ <;> intro hp) | refine KG ?_ | fail)
        all_goals try (exfalso; omega)
        all_goals (
        refine gc_draw 14 ([]) (by kernel_rfl) rfl (by first | exact List.Sublist.refl _ | simp) ?_
        all_goals refine DD 0 ?_
        all_goals (first | refine D1 1 ?_ | (refine DV (k := 1) (b := by first | exact U2 i) (c := ?_)) | refine DD 1 ?_ | fail)
        all_goals (first | refine D1 2 ?_ | (refine DV (k := 2) (b := by first | exact U2 i) (c := ?_)) | refine DD 2 ?_ | fail)
        all_goals refine DD 3 ?_
        all_goals (try (refine D7 4 ?_; (repeat' (first | refine KO ?_ | (refine KB ?_ ?_ <;> intro hp)))))
        all_goals refine DD 4 ?_
        all_goals refine DD 5 ?_
        all_goals (first | refine D1 6 ?_ | (refine DV (k := 6) (b := by first | exact U2 i) (c := ?_)) | refine DD 6 ?_ | fail)
        all_goals refine DD 7 ?_
        all_goals (first | refine D1 8 ?_ | (refine DV (k := 8) (b := by first | exact U2 i) (c := ?_)) | refine DD 8 ?_ | fail)
        all_goals (first | refine D1 9 ?_ | (refine DV (k := 9) (b := by first | exact U2 i) (c := ?_)) | refine DD 9 ?_ | fail)
        all_goals (first | refine D1 10 ?_ | (refine DV (k := 10) (b := by first | exact U2 i) (c := ?_)) | (refine D3 10 (DW (b := by first | exact U2 i) (c := ?_))) | refine DD 10 ?_ | fail)
        all_goals (first | (refine D3 11 ?_; refine D5 ?_; (with_reducible apply C1); exact rfl; exact EN; fail; refine D9 ?_) | refine D3 11 (D6 ?_))
        all_goals refine DD 12 ?_
        all_goals refine DD 13 ?_
        all_goals refine D8 ?_
        all_goals try (exfalso; omega)
        all_goals repeat' (first | refine KK ?_ | (refine KB ?_ ?_ <;> intro hp) | refine KG ?_ | fail))
        all_goals exact ret_s rfl rfl (congrArg _ hRj)
  · obtain rfl : i = sg.length := by omega
    rw [List.drop_length] at hRj
    have hR3 : decide (j = n) = R := by
      rw [← hRj]
      have e1 : Iq.kidsB [] ((ks.drop j).map T.op) = ((ks.drop j).map T.op).isEmpty := rfl
      rw [e1, Bool.eq_iff_iff, decide_eq_true_iff, List.isEmpty_iff, List.map_eq_nil_iff, List.drop_eq_nil_iff]
      omega
    repeat' (first | refine KK ?_ | (refine KB ?_ ?_ <;> intro hp) | refine KG ?_ | fail)
    all_goals try (exfalso; omega)
    all_goals refine ret_s rfl rfl ?_
    all_goals rw [← hR3]
    all_goals congr 1
    all_goals rw [Bool.eq_iff_iff, decide_eq_true_iff, decide_eq_true_iff]
    all_goals omega
theorem rkids_spec (sg : List UInt8) (hsg : sg.length ≤ 1000) (ks : List T) (u : Value) (w : World) (μ : Mem) (hμ : MOk μ w) (hu : KR μ ks u) (hk : ks.length ≤ 100000) : Calls Tryz.prog 113 #[.string (ofB sg), u] w fun e w' => e = .returned (.bool (Iq.kidsB sg (ks.map T.op))) ∧ Below w.heap.size w w' := by
  have hu0 := hu
  obtain ⟨A, c, rfl, hc, hget0⟩ := hu.form
  have hsz := of_size sg
  generalize hR : Iq.kidsB sg (ks.map T.op) = R
  refine call_intro (args := [.string (ofB sg), .slice A ks.length c]) Tryz.func113 rfl Tryz.ntmps113 (by simp) hμ ?_
  generalize hn : ks.length = n at *
  repeat' (first | refine KK ?_ | (refine KB ?_ ?_ <;> intro hp) | refine KG ?_ | fail)
  refine gc_loop (ι := Nat × Nat) (fun i => i.1 ≤ sg.length ∧ i.2 ≤ n ∧ Iq.kidsB (sg.drop i.1) ((ks.drop i.2).map T.op) = R) (fun i => sg.length - i.1) (fun _ => μ) (fun i => [(6, .int .i64 (i.1 : Int)), (5, .int .i64 (i.2 : Int)), (0, .string (ofB sg)), (1, .slice A n c)]) (fun _ => []) (0, 0) ⟨by simp, by simp, by simpa using hR⟩ (fun a w hs => hs.sel PU PS) ?_
  rintro ⟨i, j⟩ ⟨hi, hj, hRj⟩
  try dsimp only at hi hj hRj ⊢
  by_cases hlt : i < sg.length
  · obtain ⟨ch, hb1, hb2⟩ := bl_get (s := ofB sg) (i := i) (by omega)
    rw [bl_of] at hb1
    have hds := dropc hb1
    by_cases hst : sg[i + 1]? = some 42
    · have hlt2 : i + 1 < sg.length := (List.getElem?_eq_some_iff.1 hst).1
      have hst2 : bAt (ofB sg) (i + 1) = 42 := by
        have : (bl (ofB sg))[i + 1]? = some 42 := by rw [bl_of]; exact hst
        exact bAt_get this
      rw [hds, dropc hst, kids_star] at hRj
      repeat' (first | refine KO ?_ | (refine KV (b := by first | exact U2 i | exact U2 (i + 1)) (c := ?_)) | refine KI ?_ | (refine KB ?_ ?_ <;> intro hp) | refine KG ?_ | fail)
      all_goals try (exfalso; omega)
      all_goals refine gc_loop (ι := Nat) (fun q => q ≤ n ∧ starB ch (sg.drop (i + 2)) ((ks.drop q).map T.op) = R) (fun q => n - q) (fun _ => μ) (fun q => [(7, .int .i64 (((ofB sg).size : Int) - (i : Int) - 2)), (6, .int .i64 (i : Int)), (5, .int .i64 (q : Int)), (0, .string (ofB sg)), (1, .slice A n c)]) (fun _ => []) j ⟨hj, hRj⟩ (fun a w hs => hs.sel PU PS) ?_
      rintro j2 ⟨hj2, hR2⟩
      skip
      have hdl : (sg.drop (i + 2)).length = sg.length - (i + 2) := List.length_drop
      have hml : ((ks.drop j2).map T.op).length = n - j2 := by rw [List.length_map, List.length_drop, hn]
      by_cases hin : sg.length - (i + 2) < n - j2
      · have hkk : ks[j2]? = some ks[j2] := List.getElem?_eq_getElem (by omega)
        generalize ks[j2] = t at hkk
        have hdt := dropc hkk
        obtain ⟨ad2, x, rfl, hm, ho, hkx⟩ := hget0 j2 t hkk
        have hml2 : ((ks.drop (j2 + 1)).map T.op).length = n - (j2 + 1) := by rw [List.length_map, List.length_drop, hn]
        rw [hdt, List.map_cons, star_step (by rw [List.length_cons]; omega)] at hR2
        cases hf : Iq.fitB ch t.op
        · rw [hf] at hR2
          rw [Bool.false_and] at hR2
          repeat' (first | refine KK ?_ | (refine KB ?_ ?_ <;> intro hp) | refine KG ?_ | fail)
          all_goals try (exfalso; omega)
          refine gc_draw 10 ([]) (by kernel_rfl) rfl (by first | exact List.Sublist.refl _ | simp) ?_
          all_goals refine DD 0 ?_
          all_goals refine DD 1 ?_
          all_goals (first | refine D1 2 ?_ | (refine DV (k := 2) (b := by first | exact U2 i | exact U1 j2 | exact U4 hm) (c := ?_)) | refine DD 2 ?_ | fail)
          all_goals refine DD 3 ?_
          all_goals refine DD 4 ?_
          all_goals (first | refine D1 5 ?_ | (refine DV (k := 5) (b := by first | exact U2 i | exact U1 j2 | exact U4 hm) (c := ?_)) | refine DD 5 ?_ | fail)
          all_goals (first | refine D1 6 ?_ | (refine DV (k := 6) (b := by first | exact U2 i | exact U1 j2 | exact U4 hm) (c := ?_)) | refine DD 6 ?_ | fail)
          all_goals (first | refine D1 7 ?_ | (refine DV (k := 7) (b := by first | exact U2 i | exact U1 j2 | exact U4 hm) (c := ?_)) | (refine D3 7 (DW (b := by first | exact U2 i | exact U1 j2 | exact U4 hm) (c := ?_))) | refine DD 7 ?_ | fail)
          all_goals (first | (refine D3 8 ?_; refine D5 ?_; (with_reducible apply F1 139); exact rfl; exact EN; (exact fun w μc hw hse => rone_b _ ch _ _ hb2 hf w μc hw); refine D9 ?_))
          all_goals refine DD 9 ?_
          all_goals refine D8 ?_
          all_goals repeat' (first | refine KK ?_ | (refine KB ?_ ?_ <;> intro hp) | refine KG ?_ | fail)
          all_goals exact ret_s rfl rfl (congrArg _ hR2)
        · rw [hf] at hR2
          rw [Bool.true_and] at hR2
          have hE := hR2
          repeat' (first | refine KK ?_ | (refine KB ?_ ?_ <;> intro hp) | refine KG ?_ | fail)
          all_goals try (exfalso; omega)
          refine gc_draw 10 ([]) (by kernel_rfl) rfl (by first | exact List.Sublist.refl _ | simp) ?_
          all_goals refine DD 0 ?_
          all_goals refine DD 1 ?_
          all_goals (first | refine D1 2 ?_ | (refine DV (k := 2) (b := by first | exact U2 i | exact U1 j2 | exact U4 hm) (c := ?_)) | refine DD 2 ?_ | fail)
          all_goals refine DD 3 ?_
          all_goals refine DD 4 ?_
          all_goals (first | refine D1 5 ?_ | (refine DV (k := 5) (b := by first | exact U2 i | exact U1 j2 | exact U4 hm) (c := ?_)) | refine DD 5 ?_ | fail)
          all_goals (first | refine D1 6 ?_ | (refine DV (k := 6) (b := by first | exact U2 i | exact U1 j2 | exact U4 hm) (c := ?_)) | refine DD 6 ?_ | fail)
          all_goals (first | refine D1 7 ?_ | (refine DV (k := 7) (b := by first | exact U2 i | exact U1 j2 | exact U4 hm) (c := ?_)) | (refine D3 7 (DW (b := by first | exact U2 i | exact U1 j2 | exact U4 hm) (c := ?_))) | refine DD 7 ?_ | fail)
          all_goals (first | (refine D3 8 ?_; refine D5 ?_; (with_reducible apply F1 139); exact rfl; exact EN; (exact fun w μc hw hse => rone_b _ ch _ _ hb2 hf w μc hw); refine D9 ?_))
          all_goals refine DD 9 ?_
          all_goals refine D8 ?_
          all_goals repeat' (first | refine KK ?_ | (refine KB ?_ ?_ <;> intro hp) | refine KG ?_ | fail)
          all_goals exact J2 (j2 + 1) ⟨by show j2 + 1 ≤ n; omega, hE⟩ (by show n - (j2 + 1) < n - j2; omega)
      · have hE := hR2
        rw [star_end (by omega)] at hE
        repeat' (first | refine KK ?_ | (refine KB ?_ ?_ <;> intro hp) | refine KG ?_ | fail)
        all_goals try (exfalso; omega)
        all_goals exact J2 (i + 2, j2) ⟨by show i + 2 ≤ sg.length; omega, hj2, hE⟩ (by show sg.length - (i + 2) < sg.length - i; omega)
    · have hst2 : i + 1 < sg.length → ¬ bAt (ofB sg) (i + 1) = 42 := fun h e => by
        obtain ⟨ch2, h1, h2⟩ := bl_get (s := ofB sg) (i := i + 1) (by omega)
        rw [bl_of] at h1
        rw [h1] at hst
        exact hst (by rw [show ch2 = 42 from UInt8.toNat_inj.1 (by rw [h2] at e; exact Int.ofNat.inj e)])
      have hhd : (sg.drop (i + 1)).head? ≠ some 42 := by rw [List.head?_drop]; exact hst
      rw [hds, kids_one hhd] at hRj
      by_cases hin : j < n
      · have hkk : ks[j]? = some ks[j] := List.getElem?_eq_getElem (by omega)
        generalize ks[j] = t at hkk
        have hdt := dropc hkk
        obtain ⟨ad2, x, rfl, hm, ho, hkx⟩ := hget0 j t hkk
        rw [hdt, List.map_cons] at hRj
        try dsimp only at hRj
        cases hf : Iq.fitB ch t.op
        · rw [hf] at hRj
          rw [Bool.false_and] at hRj
          by_cases hlt2 : i + 1 < sg.length
          all_goals try have hst3 := hst2 hlt2
          all_goals clear hst2
          all_goals repeat' (first | refine KO ?_ | (refine KV (b := by first | exact U2 i | exact U2 (i + 1)) (c := ?_)) | refine KI ?_ | (refine KB ?_ ?_ <;> intro hp) | refine KG ?_ | fail)
          all_goals try (exfalso; omega)
          all_goals (
          refine gc_draw 16 ([]) (by kernel_rfl) rfl (by first | exact List.Sublist.refl _ | simp) ?_
          all_goals refine DD 0 ?_
          all_goals refine DD 1 ?_
          all_goals (first | refine D1 2 ?_ | (refine DV (k := 2) (b := by first | exact U2 i | exact U1 j | exact U4 hm) (c := ?_)) | refine DD 2 ?_ | fail)
          all_goals (first | refine D1 3 ?_ | (refine DV (k := 3) (b := by first | exact U2 i | exact U1 j | exact U4 hm) (c := ?_)) | refine DD 3 ?_ | fail)
          all_goals refine DD 4 ?_
          all_goals (try (refine D7 5 ?_; (repeat' (first | refine KO ?_ | (refine KB ?_ ?_ <;> intro hp)))))
          all_goals refine DD 5 ?_
          all_goals refine DD 6 ?_
          all_goals (first | refine D1 7 ?_ | (refine DV (k := 7) (b := by first | exact U2 i | exact U1 j | exact U4 hm) (c := ?_)) | refine DD 7 ?_ | fail)
          all_goals refine DD 8 ?_
          all_goals refine DD 9 ?_
          all_goals (first | refine D1 10 ?_ | (refine DV (k := 10) (b := by first | exact U2 i | exact U1 j | exact U4 hm) (c := ?_)) | refine DD 10 ?_ | fail)
          all_goals (first | refine D1 11 ?_ | (refine DV (k := 11) (b := by first | exact U2 i | exact U1 j | exact U4 hm) (c := ?_)) | refine DD 11 ?_ | fail)
          all_goals (first | refine D1 12 ?_ | (refine DV (k := 12) (b := by first | exact U2 i | exact U1 j | exact U4 hm) (c := ?_)) | (refine D3 12 (DW (b := by first | exact U2 i | exact U1 j | exact U4 hm) (c := ?_))) | refine DD 12 ?_ | fail)
          all_goals (first | (refine D3 13 ?_; refine D5 ?_; (with_reducible apply F1 139); exact rfl; exact EN; (exact fun w μc hw hse => rone_b _ ch _ _ hb2 hf w μc hw); refine D9 ?_) | refine D3 13 (D6 ?_))
          all_goals refine DD 14 ?_
          all_goals refine DD 15 ?_
          all_goals refine D8 ?_
          all_goals try (exfalso; omega)
          all_goals repeat' (first | refine KK ?_ | (refine KB ?_ ?_ <;> intro hp) | refine KG ?_ | fail))
          all_goals exact ret_s rfl rfl (congrArg _ hRj)
        · rw [hf] at hRj
          rw [Bool.true_and] at hRj
          have hE := hRj
          by_cases hlt2 : i + 1 < sg.length
          all_goals try have hst3 := hst2 hlt2
          all_goals clear hst2
          all_goals repeat' (first | refine KO ?_ | (refine KV (b := by first | exact U2 i | exact U2 (i + 1)) (c := ?_)) | refine KI ?_ | (refine KB ?_ ?_ <;> intro hp) | refine KG ?_ | fail)
          all_goals try (exfalso; omega)
          all_goals (
          refine gc_draw 16 ([]) (by kernel_rfl) rfl (by first | exact List.Sublist.refl _ | simp) ?_
          all_goals refine DD 0 ?_
          all_goals refine DD 1 ?_
          all_goals (first | refine D1 2 ?_ | (refine DV (k := 2) (b := by first | exact U2 i | exact U1 j | exact U4 hm) (c := ?_)) | refine DD 2 ?_ | fail)
          all_goals (first | refine D1 3 ?_ | (refine DV (k := 3) (b := by first | exact U2 i | exact U1 j | exact U4 hm) (c := ?_)) | refine DD 3 ?_ | fail)
          all_goals refine DD 4 ?_
          all_goals (try (refine D7 5 ?_; (repeat' (first | refine KO ?_ | (refine KB ?_ ?_ <;> intro hp)))))
          all_goals refine DD 5 ?_
          all_goals refine DD 6 ?_
          all_goals (first | refine D1 7 ?_ | (refine DV (k := 7) (b := by first | exact U2 i | exact U1 j | exact U4 hm) (c := ?_)) | refine DD 7 ?_ | fail)
          all_goals refine DD 8 ?_
          all_goals refine DD 9 ?_
          all_goals (first | refine D1 10 ?_ | (refine DV (k := 10) (b := by first | exact U2 i | exact U1 j | exact U4 hm) (c := ?_)) | refine DD 10 ?_ | fail)
          all_goals (first | refine D1 11 ?_ | (refine DV (k := 11) (b := by first | exact U2 i | exact U1 j | exact U4 hm) (c := ?_)) | refine DD 11 ?_ | fail)
          all_goals (first | refine D1 12 ?_ | (refine DV (k := 12) (b := by first | exact U2 i | exact U1 j | exact U4 hm) (c := ?_)) | (refine D3 12 (DW (b := by first | exact U2 i | exact U1 j | exact U4 hm) (c := ?_))) | refine DD 12 ?_ | fail)
          all_goals (first | (refine D3 13 ?_; refine D5 ?_; (with_reducible apply F1 139); exact rfl; exact EN; (exact fun w μc hw hse => rone_b _ ch _ _ hb2 hf w μc hw); refine D9 ?_) | refine D3 13 (D6 ?_))
          all_goals refine DD 14 ?_
          all_goals refine DD 15 ?_
          all_goals refine D8 ?_
          all_goals try (exfalso; omega)
          all_goals repeat' (first | refine KK ?_ | (refine KB ?_ ?_ <;> intro hp) | refine KG ?_ | fail))
          all_goals exact J2 (i + 1, j + 1) ⟨by show i + 1 ≤ sg.length; omega, by show j + 1 ≤ n; omega, hE⟩ (by show sg.length - (i + 1) < sg.length - i; omega)
      · have hdt : ks.drop j = [] := List.drop_of_length_le (by omega)
        rw [hdt] at hRj
        try dsimp only [List.map_nil] at hRj
        by_cases hlt2 : i + 1 < sg.length
        all_goals try have hst3 := hst2 hlt2
        all_goals clear hst2
        all_goals repeat' (first | refine KO ?_ | (refine KV (b := by first | exact U2 i | exact U2 (i + 1)) (c := ?_)) | refine KI ?_ | (refine KB ?_ ?_ <;> intro hp) | refine KG ?_ | fail)
        all_goals try (exfalso; omega)
        all_goals (
        refine gc_draw 16 ([]) (by kernel_rfl) rfl (by first | exact List.Sublist.refl _ | simp) ?_
        all_goals refine DD 0 ?_
        all_goals refine DD 1 ?_
        all_goals (first | refine D1 2 ?_ | (refine DV (k := 2) (b := by first | exact U2 i) (c := ?_)) | refine DD 2 ?_ | fail)
        all_goals (first | refine D1 3 ?_ | (refine DV (k := 3) (b := by first | exact U2 i) (c := ?_)) | refine DD 3 ?_ | fail)
        all_goals refine DD 4 ?_
        all_goals (try (refine D7 5 ?_; (repeat' (first | refine KO ?_ | (refine KB ?_ ?_ <;> intro hp)))))
        all_goals refine DD 5 ?_
        all_goals refine DD 6 ?_
        all_goals (first | refine D1 7 ?_ | (refine DV (k := 7) (b := by first | exact U2 i) (c := ?_)) | refine DD 7 ?_ | fail)
        all_goals refine DD 8 ?_
        all_goals refine DD 9 ?_
        all_goals (first | refine D1 10 ?_ | (refine DV (k := 10) (b := by first | exact U2 i) (c := ?_)) | refine DD 10 ?_ | fail)
        all_goals (first | refine D1 11 ?_ | (refine DV (k := 11) (b := by first | exact U2 i) (c := ?_)) | refine DD 11 ?_ | fail)
        all_goals (first | refine D1 12 ?_ | (refine DV (k := 12) (b := by first | exact U2 i) (c := ?_)) | (refine D3 12 (DW (b := by first | exact U2 i) (c := ?_))) | refine DD 12 ?_ | fail)
        all_goals (first | (refine D3 13 ?_; refine D5 ?_; (with_reducible apply C1); exact rfl; exact EN; fail; refine D9 ?_) | refine D3 13 (D6 ?_))
        all_goals refine DD 14 ?_
        all_goals refine DD 15 ?_
        all_goals refine D8 ?_
        all_goals try (exfalso; omega)
        all_goals repeat' (first | refine KK ?_ | (refine KB ?_ ?_ <;> intro hp) | refine KG ?_ | fail))
        all_goals exact ret_s rfl rfl (congrArg _ hRj)
  · obtain rfl : i = sg.length := by omega
    rw [List.drop_length] at hRj
    have hR3 : decide (j = n) = R := by
      rw [← hRj]
      have e1 : Iq.kidsB [] ((ks.drop j).map T.op) = ((ks.drop j).map T.op).isEmpty := rfl
      rw [e1, Bool.eq_iff_iff, decide_eq_true_iff, List.isEmpty_iff, List.map_eq_nil_iff, List.drop_eq_nil_iff]
      omega
    repeat' (first | refine KK ?_ | (refine KB ?_ ?_ <;> intro hp) | refine KG ?_ | fail)
    all_goals try (exfalso; omega)
    all_goals refine ret_s rfl rfl ?_
    all_goals rw [← hR3]
    all_goals congr 1
    all_goals rw [Bool.eq_iff_iff, decide_eq_true_iff, decide_eq_true_iff]
    all_goals omega
end Go.Proofs.YtoclmkdfcafhfaaGreatDoor
