/- A law's frame with what the row lists of variables AND the world's shape. -/
import Derived.HandedShaped
import Derived.Shelf.Vars
import Derived.Lay
import Derived.LaidOnce
import Derived.SevenTiedAt
import Derived.Test.YtoclmkdfcafhfaaGreatDoorTie
import Derived.Test.YtoclmkdfcafhfaaGreatDoorCards
import Derived.Laws.IdiomStrings
import Derived.Test.YtoclmkdfcafhfaaGreatDoorQap
set_option maxRecDepth 20000
set_option maxHeartbeats 2000000
namespace Go
variable {H : Type} {enc : TypeId × Value → H}
theorem returnsInHanded_of_change_both {a : Assume} {C : Checked} {os : Os} {f : FuncId} {fn : Func} {s : ChangeSpec} {conds : List PathCond} {apart fresh handsOn again : Bool} {X : World → Array Value → Prop}
    (hX : ∀ (w w' : World) (args : Array Value), w.heap = w'.heap → X w args → X w' args)
    (own : ownKnob C.prog.godebug = none) (started : os.Started) (noInit : C.prog.inits.idxOf? f = none) (hfn : C.prog.funcs[f]? = some fn)
    (witness : ∃ (w : World) (tape : Tape) (i : Input), w.os = os ∧ (w.forCall tape i).Shaped C.prog ∧ i.vars = [] ∧ Input.okWide C.prog (w.forCall tape i) .any w.heap.size f i ∧
      ((s.pre enc C.prog fn conds apart (w.forCall tape i).memory i.args ∧ X (w.forCall tape i).memory i.args) ∧ sizedMet enc C.prog fn (OpenSpec.ofChange s) apart (w.forCall tape i).memory i.args) ∧ a.holds C.prog (lone (Frame.enter C.prog f i.args .normal) [] (w.forCall tape i)))
    (contract : ∀ (W : World) (base : Nat) (args : Array Value) (ds gs : List (DataW H)) (before : List MemPlace),
      (∀ (j : Nat) t v, fn.params[j]? = some t → args[j]? = some v → Value.okWide C.prog W .any base t v) →
      DataW.Whole enc C.prog fn.params.toList s.vars apart W args.toList ds gs before →
      (DataW.weightsEach C.prog (fn.params.toList ++ s.plain.varTypes C.prog) (ds ++ gs)).all (· ≤ reachBytes) = true → X W args → W.ShapedOpen C.prog →
      Calls C.prog f args W fun e W' => ∃ v, e = .returned v ∧ s.post enc C.prog fn apart fresh handsOn again W args v W') :
    ReturnsInHanded a C os f .any (fun w args => (s.pre enc C.prog fn conds apart w args ∧ X w args) ∧ sizedMet enc C.prog fn (OpenSpec.ofChange s) apart w args) (s.post enc C.prog fn apart fresh handsOn again) := by
  refine returnsInHanded_of_calls own started noInit witness ?_
  intro w tape i _ hsh _ hok hpre _
  obtain ⟨_, _, _, g, hg, _, _, _, _, hval⟩ := hok
  obtain rfl : g = fn := Option.some.inj (hg.symm.trans hfn)
  obtain ⟨⟨⟨ds, gs, before, hw, _⟩, hx⟩, hz⟩ := hpre
  refine (contract (w.forCall tape i) w.heap.size i.args ds gs before hval (DataW.Whole.of_heap (w' := w.forCall tape i) (by rfl) hw) (hz.weights hw) (hX _ _ _ (by rfl) hx) hsh).mono fun e W' hp => ?_
  obtain ⟨v, rfl, hp⟩ := hp
  exact ChangeSpec.post_blind hp
end Go
namespace Go.Proofs.YtoclmkdfcafhfaaGreatDoor
open Go.ChangeShapes Go.WideShapes Go.ChangeAt Go.RowKit Go.Deep Go.Vcg
theorem i64_bounds {n : Int} (h : (Lit.int .i64 n).wf = true) : -9223372036854775808 ≤ n ∧ n ≤ 9223372036854775807 := by
  simp only [Lit.wf, Bool.and_eq_true, decide_eq_true_eq] at h
  simpa [IntKind.min, IntKind.max, IntKind.signed, IntKind.bits] using h
end Go.Proofs.YtoclmkdfcafhfaaGreatDoor
namespace Go.Vcg
open Go.RowKit
section
variable {P : Program} {X : Ctx} {ops : Array Oper} {Q : Exit → Act → World → Prop} {rest : List Oper} {μ : Mem} {l : Slots} {L : List Bk} {a : Act} {w : World} {o : Oper} {d : Nat}
variable {ty : TypeId} {pos : String} {af : Array Edge} {gd : Option (Nat × Bool)} {ds : Option Nat}
theorem g_mkrow {t e : TypeId} {z : Value} {bytes : Nat} {p q : Operand} {x y : Int} (N : Nat) (xs : List Value) (hn : Nat.blt d X.n = true) (hw : wants ops l ⟨some d, .makeSlice t p q, ty, pos, af, gd⟩ = some true)
    (hp : ev l p = some (.int .i64 x)) (hq : ev l q = some (.int .i64 y)) (hx : x = (N : Int)) (hy : y = (N : Int)) (ht : P.underlying t = some (.slice e)) (hinfo : (P.info? e).map (fun i => (i.zero, i.size, i.bytes)) = some (some z, 1, bytes)) (hz1 : z.cells = #[z])
    (hbytes : bytes * N ≤ 281474976710656) (h63 : N ≤ 9223372036854775807) (hxs : xs = List.replicate N z)
    (h : ∀ b, G P X ops Q rest μ ((d, .slice (some ⟨b, 0, none⟩) N N) :: l) (.inr ⟨.slice (some ⟨b, 0, none⟩) N N, e, 1, N, xs⟩ :: L)) : G P X ops Q (⟨some d, .makeSlice t p q, ty, pos, af, gd⟩ :: rest) μ l L :=
  g_wp hw fun a w hs => by
    have e1 := hs.eval hp; have e2 := hs.eval hq
    have e0 : (execOp a.eval ⟨some d, .makeSlice t p q, ty, pos, af, gd⟩).run P w = .ok (.value (.slice (some ⟨w.heap.size, 0, none⟩) N N)) (w.alloc (.cells (madeCells #[z] N) e)) := by
      generalize a.eval = ρ at e1 e2
      subst hx hy
      simp [execOp, e1, e2, run_make_row' t e z bytes ht hinfo hz1 .i64 .i64 N hbytes h63 w]
    unfold Oper.wp
    rw [e0, Oper.upon_value]
    have hl : xs.length = N := by rw [hxs, List.length_replicate]
    refine h _ _ _ ((hs.newB _ (.inr ⟨.slice (some ⟨w.heap.size, 0, none⟩) N N, e, 1, N, xs⟩) rfl ?_).put hn _)
    refine ⟨by show xs.length = N * 1; omega, .inr ⟨w.heap.size, N, madeCells #[z] N, rfl, Nat.zero_le _, heap_alloc_new w _, Nat.le_refl _, h63, ?_, ?_⟩⟩
    · rw [size_madeCells]; exact (Nat.mul_one N).symm
    · rw [toList_madeCells_one, hxs, Nat.mul_one]
      exact List.take_of_length_le (by simp)
end
end Go.Vcg
namespace Go.Proofs.YtoclmkdfcafhfaaGreatDoor
section
open Go.RowKit Go.Vcg Ou
theorem kids_drop1 {μ : Mem} {ks : List T} {A : Option Addr} {n c : Nat} (h : KR μ ks (.slice A n c)) (hn : 1 ≤ n) : KR μ (ks.drop 1) (.slice (if c = 1 then A else A.map (·.add (1 * 6))) (n - 1) (c - 1)) := by
  cases h with
  | mk _ A c vs hcap hcell hone hsub =>
    have e : (ks.drop 1).length = ks.length - 1 := by simp
    have h0 : ∀ (i : Nat) (t : T), (ks.drop 1)[i]? = some t → ks[1 + i]? = some t := fun i t hi => by simpa [Nat.add_comm] using hi
    have := KR.mk (μ := μ) (ks.drop 1) (if c = 1 then A else A.map (·.add (1 * 6))) (c - 1) (fun i => vs (1 + i)) (by omega) (fun i t hi => ?_) (fun i t hi => hone _ t (h0 i t hi)) (fun i t hi => hsub _ t (h0 i t hi))
    · rw [e] at this
      exact this
    · obtain ⟨a, e, hc⟩ := hcell _ t (h0 i t hi)
      have : 1 + i < ks.length := (List.getElem?_eq_some_iff.1 (h0 i t hi)).1
      rw [if_neg (by omega), e]
      refine ⟨_, rfl, ?_⟩
      rw [add_add', ← Nat.add_mul]
      exact hc
theorem dropc {α : Type} {l : List α} {j : Nat} {t : α} (h : l[j]? = some t) : l.drop j = t :: l.drop (j + 1) := by
  obtain ⟨hlt, e⟩ := List.getElem?_eq_some_iff.1 h
  rw [← e, List.getElem_cons_drop]
def starB (c : UInt8) (r : List UInt8) (l : List Int) : Bool := (l.take (l.length - r.length)).all (Iq.fitB c) && Iq.kidsB r (l.drop (l.length - r.length))
theorem kids_star (c : UInt8) (r : List UInt8) (l : List Int) : Iq.kidsB (c :: 42 :: r) l = starB c r l := by
  unfold Iq.kidsB starB
  rw [if_pos rfl]
theorem star_step {c : UInt8} {r : List UInt8} {x : Int} {l : List Int} (h : r.length < (x :: l).length) : starB c r (x :: l) = (Iq.fitB c x && starB c r l) := by
  unfold starB
  have e : (x :: l).length - r.length = (l.length - r.length) + 1 := by simp at h ⊢; omega
  rw [e, List.take_succ_cons, List.all_cons, List.drop_succ_cons, Bool.and_assoc]
theorem star_end {c : UInt8} {r : List UInt8} {l : List Int} (h : l.length ≤ r.length) : starB c r l = Iq.kidsB r l := by
  unfold starB
  rw [Nat.sub_eq_zero_of_le h]
  rfl
theorem kids_one {c : UInt8} {r : List UInt8} (h : r.head? ≠ some 42) (l : List Int) : Iq.kidsB (c :: r) l = match l with
    | [] => false
    | x :: l' => Iq.fitB c x && Iq.kidsB r l' := by
  cases r with
  | nil => cases l <;> rfl
  | cons d r =>
    have hd : ¬ d = 42 := fun e => h (by rw [e]; rfl)
    conv => lhs; unfold Iq.kidsB
    rw [if_neg hd]
    cases l <;> rfl
attribute [local irreducible] starB G GC GQ GA GAop Calls IntKind.wrap Int.decLt Int.decLe
theorem pfits_b (x : Int) (c : UInt8) (op : Int) (b : Bool) (hx : x = c.toNat) (hb : Iq.fitB c op = b) (w : World) (μ : Mem) (hμ : MOk μ w) : Calls Tryz.prog 134 #[.int .u8 x, .int .i64 op] w fun e w' => e = .returned (.bool b) ∧ Below w.heap.size w w' := by
  subst hb
  exact pfits_spec x c op hx w μ hμ
theorem pkids_spec (sg : List UInt8) (hsg : sg.length ≤ 1000) (ks : List T) (u : Value) (w : World) (μ : Mem) (hμ : MOk μ w) (hu : KR μ ks u) (hk : ks.length ≤ 100000) : Calls Tryz.prog 106 #[.string (ofB sg), u] w fun e w' => e = .returned (.bool (Iq.kidsB sg (ks.map T.op))) ∧ Below w.heap.size w w' := by
  have hu0 := hu
  obtain ⟨A, c, rfl, hc, hget0⟩ := hu.form
  have hsz := of_size sg
  generalize hR : Iq.kidsB sg (ks.map T.op) = R
  refine call_intro (args := [.string (ofB sg), .slice A ks.length c]) Tryz.func106 rfl Tryz.ntmps106 (by simp) hμ ?_
  generalize hn : ks.length = n at *
  repeat' (first | refine KK ?_ | (refine KB ?_ ?_ <;> intro hp) | refine KG ?_ | fail)
  refine gc_loop (ι := Nat × Nat × Option Addr × Nat) (fun i => i.1 ≤ sg.length ∧ i.2.1 ≤ n ∧ KR μ (ks.drop i.2.1) (.slice i.2.2.1 (n - i.2.1) i.2.2.2) ∧ Iq.kidsB (sg.drop i.1) ((ks.drop i.2.1).map T.op) = R) (fun i => sg.length - i.1) (fun _ => μ) (fun i => [(5, .int .i64 (i.1 : Int)), (0, .string (ofB sg)), (1, .slice i.2.2.1 (n - i.2.1) i.2.2.2)]) (fun _ => []) (0, 0, A, c) ⟨by simp, by simp, by simpa [hn] using hu0, by simpa using hR⟩ (fun a w hs => hs.sel PU PS) ?_
  rintro ⟨i, j, Aj, cj⟩ ⟨hi, hj, hkj, hRj⟩
  try dsimp only at hi hj hkj hRj ⊢
  by_cases hlt : i < sg.length
  · obtain ⟨ch, hb1, hb2⟩ := bl_get (s := ofB sg) (i := i) (by omega)
    rw [bl_of] at hb1
    have hds := dropc hb1
    by_cases hst : sg[i + 1]? = some 42
    · have hlt2 : i + 1 < sg.length := (List.getElem?_eq_some_iff.1 hst).1
      have hst2 : bAt (ofB sg) (i + 1) = 42 := by
        have : (bl (ofB sg))[i + 1]? = some 42 := by rw [bl_of]; exact hst
        exact bAt_get this
      rw [hds, dropc hst, kids_star] at hRj
      repeat' (first | refine KO ?_ | (refine KV (b := by first | exact U2 i | exact U2 (i + 1)) (c := ?_)) | refine KI ?_ | (refine KB ?_ ?_ <;> intro hp) | refine KG ?_ | fail)
      all_goals try (exfalso; omega)
      all_goals refine gc_loop (ι := Nat × Option Addr × Nat) (fun q => q.1 ≤ n ∧ KR μ (ks.drop q.1) (.slice q.2.1 (n - q.1) q.2.2) ∧ starB ch (sg.drop (i + 2)) ((ks.drop q.1).map T.op) = R) (fun q => n - q.1) (fun _ => μ) (fun q => [(6, .int .i64 (((ofB sg).size : Int) - (i : Int) - 2)), (5, .int .i64 (i : Int)), (0, .string (ofB sg)), (1, .slice q.2.1 (n - q.1) q.2.2)]) (fun _ => []) (j, Aj, cj) ⟨hj, hkj, hRj⟩ (fun a w hs => hs.sel PU PS) ?_
      rintro ⟨j2, A2, c2⟩ ⟨hj2, hk2, hR2⟩
      try dsimp only at hj2 hk2 hR2 ⊢
      have hdl : (sg.drop (i + 2)).length = sg.length - (i + 2) := List.length_drop
      have hml : ((ks.drop j2).map T.op).length = n - j2 := by rw [List.length_map, List.length_drop, hn]
      by_cases hin : sg.length - (i + 2) < n - j2
      · have hkk : ks[j2]? = some ks[j2] := List.getElem?_eq_getElem (by omega)
        generalize ks[j2] = t at hkk
        have hdt := dropc hkk
        obtain ⟨A', c', e', hlc, hget⟩ := hk2.form
        have hkl : (ks.drop j2).length = n - j2 := by rw [List.length_drop, hn]
        rw [hkl] at e' hlc
        cases e'
        obtain ⟨ad2, x, rfl, hm, ho, hkx⟩ := hget 0 t (by rw [hdt]; rfl)
        have hkt := kids_drop1 hk2 (by omega)
        rw [List.drop_drop] at hkt
        have hml2 : ((ks.drop (j2 + 1)).map T.op).length = n - (j2 + 1) := by rw [List.length_map, List.length_drop, hn]
        rw [hdt, List.map_cons, star_step (by rw [List.length_cons]; omega)] at hR2
        cases hf : Iq.fitB ch t.op
        · rw [hf] at hR2
          rw [Bool.false_and] at hR2
          repeat' (first | refine KK ?_ | (refine KB ?_ ?_ <;> intro hp) | refine KG ?_ | fail)
          all_goals try (exfalso; omega)
          refine gc_draw 9 ([]) (by kernel_rfl) rfl (by first | exact List.Sublist.refl _ | simp) ?_
          all_goals refine DD 0 ?_
          all_goals refine DD 1 ?_
          all_goals (first | refine D1 2 ?_ | (refine DV (k := 2) (b := by first | exact U2 i | exact U1 0 | exact U4 hm) (c := ?_)) | refine DD 2 ?_ | fail)
          all_goals refine DD 3 ?_
          all_goals (first | refine D1 4 ?_ | (refine DV (k := 4) (b := by first | exact U2 i | exact U1 0 | exact U4 hm) (c := ?_)) | refine DD 4 ?_ | fail)
          all_goals (first | refine D1 5 ?_ | (refine DV (k := 5) (b := by first | exact U2 i | exact U1 0 | exact U4 hm) (c := ?_)) | refine DD 5 ?_ | fail)
          all_goals (first | refine D1 6 ?_ | (refine DV (k := 6) (b := by first | exact U2 i | exact U1 0 | exact U4 hm) (c := ?_)) | (refine D3 6 (DW (b := by first | exact U2 i | exact U1 0 | exact U4 hm) (c := ?_))) | refine DD 6 ?_ | fail)
          all_goals (first | (refine D3 7 ?_; refine D5 ?_; (with_reducible apply F1 134); exact rfl; exact EN; (exact fun w μc hw hse => pfits_b _ ch _ _ hb2 hf w μc hw); refine D9 ?_))
          all_goals refine DD 8 ?_
          all_goals refine D8 ?_
          all_goals repeat' (first | refine KO ?_ | (refine KV (b := by first | ((with_reducible apply v_slice_lo 1); exact rfl; exact rfl; exact rfl; exact rfl; exact rfl; omega)) (c := ?_)) | refine KI ?_ | (refine KB ?_ ?_ <;> intro hp) | refine KG ?_ | fail)
          all_goals exact ret_s rfl rfl (congrArg _ hR2)
        · rw [hf] at hR2
          rw [Bool.true_and] at hR2
          have hE := hR2
          repeat' (first | refine KK ?_ | (refine KB ?_ ?_ <;> intro hp) | refine KG ?_ | fail)
          all_goals try (exfalso; omega)
          refine gc_draw 9 ([]) (by kernel_rfl) rfl (by first | exact List.Sublist.refl _ | simp) ?_
          all_goals refine DD 0 ?_
          all_goals refine DD 1 ?_
          all_goals (first | refine D1 2 ?_ | (refine DV (k := 2) (b := by first | exact U2 i | exact U1 0 | exact U4 hm) (c := ?_)) | refine DD 2 ?_ | fail)
          all_goals refine DD 3 ?_
          all_goals (first | refine D1 4 ?_ | (refine DV (k := 4) (b := by first | exact U2 i | exact U1 0 | exact U4 hm) (c := ?_)) | refine DD 4 ?_ | fail)
          all_goals (first | refine D1 5 ?_ | (refine DV (k := 5) (b := by first | exact U2 i | exact U1 0 | exact U4 hm) (c := ?_)) | refine DD 5 ?_ | fail)
          all_goals (first | refine D1 6 ?_ | (refine DV (k := 6) (b := by first | exact U2 i | exact U1 0 | exact U4 hm) (c := ?_)) | (refine D3 6 (DW (b := by first | exact U2 i | exact U1 0 | exact U4 hm) (c := ?_))) | refine DD 6 ?_ | fail)
          all_goals (first | (refine D3 7 ?_; refine D5 ?_; (with_reducible apply F1 134); exact rfl; exact EN; (exact fun w μc hw hse => pfits_b _ ch _ _ hb2 hf w μc hw); refine D9 ?_))
          all_goals refine DD 8 ?_
          all_goals refine D8 ?_
          all_goals repeat' (first | refine KO ?_ | (refine KV (b := by first | ((with_reducible apply v_slice_lo 1); exact rfl; exact rfl; exact rfl; exact rfl; exact rfl; omega)) (c := ?_)) | refine KI ?_ | (refine KB ?_ ?_ <;> intro hp) | refine KG ?_ | fail)
          all_goals exact J2 (j2 + 1, _, _) ⟨by show j2 + 1 ≤ n; omega, hkt, hE⟩ (by show n - (j2 + 1) < n - j2; omega)
      · have hE := hR2
        rw [star_end (by omega)] at hE
        repeat' (first | refine KK ?_ | (refine KB ?_ ?_ <;> intro hp) | refine KG ?_ | fail)
        all_goals try (exfalso; omega)
        all_goals exact J2 (i + 2, j2, _, _) ⟨by show i + 2 ≤ sg.length; omega, hj2, hk2, hE⟩ (by show sg.length - (i + 2) < sg.length - i; omega)
    · have hst2 : i + 1 < sg.length → ¬ bAt (ofB sg) (i + 1) = 42 := fun h e => by
        obtain ⟨ch2, h1, h2⟩ := bl_get (s := ofB sg) (i := i + 1) (by omega)
        rw [bl_of] at h1
        rw [h1] at hst
        exact hst (by rw [show ch2 = 42 from UInt8.toNat_inj.1 (by rw [h2] at e; exact Int.ofNat.inj e)])
      have hhd : (sg.drop (i + 1)).head? ≠ some 42 := by rw [List.head?_drop]; exact hst
      rw [hds, kids_one hhd] at hRj
      by_cases hin : j < n
      · have hkk : ks[j]? = some ks[j] := List.getElem?_eq_getElem (by omega)
        generalize ks[j] = t at hkk
        have hdt := dropc hkk
        obtain ⟨A', c', e', hlc, hget⟩ := hkj.form
        have hkl : (ks.drop j).length = n - j := by rw [List.length_drop, hn]
        rw [hkl] at e' hlc
        cases e'
        obtain ⟨ad2, x, rfl, hm, ho, hkx⟩ := hget 0 t (by rw [hdt]; rfl)
        have hkt := kids_drop1 hkj (by omega)
        rw [List.drop_drop] at hkt
        rw [hdt, List.map_cons] at hRj
        try dsimp only at hRj
        cases hf : Iq.fitB ch t.op
        · rw [hf] at hRj
          rw [Bool.false_and] at hRj
          by_cases hlt2 : i + 1 < sg.length
          all_goals try have hst3 := hst2 hlt2
          all_goals clear hst2
          all_goals repeat' (first | refine KO ?_ | (refine KV (b := by first | exact U2 i | exact U2 (i + 1)) (c := ?_)) | refine KI ?_ | (refine KB ?_ ?_ <;> intro hp) | refine KG ?_ | fail)
          all_goals try (exfalso; omega)
          all_goals (
          refine gc_draw 14 ([]) (by kernel_rfl) rfl (by first | exact List.Sublist.refl _ | simp) ?_
          all_goals refine DD 0 ?_
          all_goals (first | refine D1 1 ?_ | (refine DV (k := 1) (b := by first | exact U2 i | exact U1 0 | exact U4 hm) (c := ?_)) | refine DD 1 ?_ | fail)
          all_goals (first | refine D1 2 ?_ | (refine DV (k := 2) (b := by first | exact U2 i | exact U1 0 | exact U4 hm) (c := ?_)) | refine DD 2 ?_ | fail)
          all_goals refine DD 3 ?_
          all_goals (try (refine D7 4 ?_; (repeat' (first | refine KO ?_ | (refine KB ?_ ?_ <;> intro hp)))))
          all_goals refine DD 4 ?_
          all_goals refine DD 5 ?_
          all_goals (first | refine D1 6 ?_ | (refine DV (k := 6) (b := by first | exact U2 i | exact U1 0 | exact U4 hm) (c := ?_)) | refine DD 6 ?_ | fail)
          all_goals refine DD 7 ?_
          all_goals (first | refine D1 8 ?_ | (refine DV (k := 8) (b := by first | exact U2 i | exact U1 0 | exact U4 hm) (c := ?_)) | refine DD 8 ?_ | fail)
          all_goals (first | refine D1 9 ?_ | (refine DV (k := 9) (b := by first | exact U2 i | exact U1 0 | exact U4 hm) (c := ?_)) | refine DD 9 ?_ | fail)
          all_goals (first | refine D1 10 ?_ | (refine DV (k := 10) (b := by first | exact U2 i | exact U1 0 | exact U4 hm) (c := ?_)) | (refine D3 10 (DW (b := by first | exact U2 i | exact U1 0 | exact U4 hm) (c := ?_))) | refine DD 10 ?_ | fail)
          all_goals (first | (refine D3 11 ?_; refine D5 ?_; (with_reducible apply F1 134); exact rfl; exact EN; (exact fun w μc hw hse => pfits_b _ ch _ _ hb2 hf w μc hw); refine D9 ?_) | refine D3 11 (D6 ?_))
          all_goals refine DD 12 ?_
          all_goals refine DD 13 ?_
          all_goals refine D8 ?_
          all_goals try (exfalso; omega)
          all_goals repeat' (first | refine KO ?_ | (refine KV (b := by first | ((with_reducible apply v_slice_lo 1); exact rfl; exact rfl; exact rfl; exact rfl; exact rfl; omega)) (c := ?_)) | refine KI ?_ | (refine KB ?_ ?_ <;> intro hp) | refine KG ?_ | fail))
          all_goals exact ret_s rfl rfl (congrArg _ hRj)
        · rw [hf] at hRj
          rw [Bool.true_and] at hRj
          have hE := hRj
          by_cases hlt2 : i + 1 < sg.length
          all_goals try have hst3 := hst2 hlt2
          all_goals clear hst2
          all_goals repeat' (first | refine KO ?_ | (refine KV (b := by first | exact U2 i | exact U2 (i + 1)) (c := ?_)) | refine KI ?_ | (refine KB ?_ ?_ <;> intro hp) | refine KG ?_ | fail)
          all_goals try (exfalso; omega)
          all_goals (
          refine gc_draw 14 ([]) (by kernel_rfl) rfl (by first | exact List.Sublist.refl _ | simp) ?_
          all_goals refine DD 0 ?_
          all_goals (first | refine D1 1 ?_ | (refine DV (k := 1) (b := by first | exact U2 i | exact U1 0 | exact U4 hm) (c := ?_)) | refine DD 1 ?_ | fail)
          all_goals (first | refine D1 2 ?_ | (refine DV (k := 2) (b := by first | exact U2 i | exact U1 0 | exact U4 hm) (c := ?_)) | refine DD 2 ?_ | fail)
          all_goals refine DD 3 ?_
          all_goals (try (refine D7 4 ?_; (repeat' (first | refine KO ?_ | (refine KB ?_ ?_ <;> intro hp)))))
          all_goals refine DD 4 ?_
          all_goals refine DD 5 ?_
          all_goals (first | refine D1 6 ?_ | (refine DV (k := 6) (b := by first | exact U2 i | exact U1 0 | exact U4 hm) (c := ?_)) | refine DD 6 ?_ | fail)
          all_goals refine DD 7 ?_
          all_goals (first | refine D1 8 ?_ | (refine DV (k := 8) (b := by first | exact U2 i | exact U1 0 | exact U4 hm) (c := ?_)) | refine DD 8 ?_ | fail)
          all_goals (first | refine D1 9 ?_ | (refine DV (k := 9) (b := by first | exact U2 i | exact U1 0 | exact U4 hm) (c := ?_)) | refine DD 9 ?_ | fail)
          all_goals (first | refine D1 10 ?_ | (refine DV (k := 10) (b := by first | exact U2 i | exact U1 0 | exact U4 hm) (c := ?_)) | (refine D3 10 (DW (b := by first | exact U2 i | exact U1 0 | exact U4 hm) (c := ?_))) | refine DD 10 ?_ | fail)
          all_goals (first | (refine D3 11 ?_; refine D5 ?_; (with_reducible apply F1 134); exact rfl; exact EN; (exact fun w μc hw hse => pfits_b _ ch _ _ hb2 hf w μc hw); refine D9 ?_) | refine D3 11 (D6 ?_))
          all_goals refine DD 12 ?_
          all_goals refine DD 13 ?_
          all_goals refine D8 ?_
          all_goals try (exfalso; omega)
          all_goals repeat' (first | refine KO ?_ | (refine KV (b := by first | ((with_reducible apply v_slice_lo 1); exact rfl; exact rfl; exact rfl; exact rfl; exact rfl; omega)) (c := ?_)) | refine KI ?_ | (refine KB ?_ ?_ <;> intro hp) | refine KG ?_ | fail))
          all_goals exact J2 (i + 1, j + 1, _, _) ⟨by show i + 1 ≤ sg.length; omega, by show j + 1 ≤ n; omega, hkt, hE⟩ (by show sg.length - (i + 1) < sg.length - i; omega)
      · have hdt : ks.drop j = [] := List.drop_of_length_le (by omega)
        rw [hdt] at hRj
        try dsimp only [List.map_nil] at hRj
        by_cases hlt2 : i + 1 < sg.length
        all_goals try have hst3 := hst2 hlt2
        all_goals clear hst2
        all_goals repeat' (first | refine KO ?_ | (refine KV (b := by first | exact U2 i | exact U2 (i + 1)) (c := ?_)) | refine KI ?_ | (refine KB ?_ ?_ <;> intro hp) | refine KG ?_ | fail)
        all_goals try (exfalso; omega)
        all_goals (
        refine gc_draw 14 ([]) (by kernel_rfl) rfl (by first | exact List.Sublist.refl _ | simp) ?_
        all_goals refine DD 0 ?_
        all_goals (first | refine D1 1 ?_ | (refine DV (k := 1) (b := by first | exact U2 i) (c := ?_)) | refine DD 1 ?_ | fail)
        all_goals (first | refine D1 2 ?_ | (refine DV (k := 2) (b := by first | exact U2 i) (c := ?_)) | refine DD 2 ?_ | fail)
        all_goals refine DD 3 ?_
        all_goals (try (refine D7 4 ?_; (repeat' (first | refine KO ?_ | (refine KB ?_ ?_ <;> intro hp)))))
        all_goals refine DD 4 ?_
        all_goals refine DD 5 ?_
        all_goals (first | refine D1 6 ?_ | (refine DV (k := 6) (b := by first | exact U2 i) (c := ?_)) | refine DD 6 ?_ | fail)
        all_goals refine DD 7 ?_
        all_goals (first | refine D1 8 ?_ | (refine DV (k := 8) (b := by first | exact U2 i) (c := ?_)) | refine DD 8 ?_ | fail)
        all_goals (first | refine D1 9 ?_ | (refine DV (k := 9) (b := by first | exact U2 i) (c := ?_)) | refine DD 9 ?_ | fail)
        all_goals (first | refine D1 10 ?_ | (refine DV (k := 10) (b := by first | exact U2 i) (c := ?_)) | (refine D3 10 (DW (b := by first | exact U2 i) (c := ?_))) | refine DD 10 ?_ | fail)
        all_goals (first | (refine D3 11 ?_; refine D5 ?_; (with_reducible apply C1); exact rfl; exact EN; fail; refine D9 ?_) | refine D3 11 (D6 ?_))
        all_goals refine DD 12 ?_
        all_goals refine DD 13 ?_
        all_goals refine D8 ?_
        all_goals try (exfalso; omega)
        all_goals repeat' (first | refine KK ?_ | (refine KB ?_ ?_ <;> intro hp) | refine KG ?_ | fail))
        all_goals exact ret_s rfl rfl (congrArg _ hRj)
  · obtain rfl : i = sg.length := by omega
    rw [List.drop_length] at hRj
    have hR3 : decide (j = n) = R := by
      rw [← hRj]
      have e1 : Iq.kidsB [] ((ks.drop j).map T.op) = ((ks.drop j).map T.op).isEmpty := rfl
      rw [e1, Bool.eq_iff_iff, decide_eq_true_iff, List.isEmpty_iff, List.map_eq_nil_iff, List.drop_eq_nil_iff]
      omega
    repeat' (first | refine KK ?_ | (refine KB ?_ ?_ <;> intro hp) | refine KG ?_ | fail)
    all_goals try (exfalso; omega)
    all_goals refine ret_s rfl rfl ?_
    all_goals rw [← hR3]
    all_goals congr 1
    all_goals rw [Bool.eq_iff_iff, decide_eq_true_iff, decide_eq_true_iff]
    all_goals omega
end
section
open Go.RowKit Go.Vcg Ou
abbrev encIn (x : Int) : List Value := [.int .i64 x]
theorem encIn_len (xs : List Int) : (xs.flatMap encIn).length = xs.length := by
  induction xs with
  | nil => rfl
  | cons x r ih => simp only [List.flatMap_cons, List.length_append, ih, List.length_cons, List.length_nil]; omega
theorem encIn_one (xs : List Int) : ∀ u ∈ xs.flatMap encIn, u.oneCell' = true := fun u hu => by
  obtain ⟨x, _, h⟩ := List.mem_flatMap.1 hu
  cases List.mem_singleton.1 h
  rfl
def IntsV (μ : Mem) (v : Value) (xs : List Int) : Prop := ∃ A c, v = .slice A xs.length c ∧ Sl encIn 1 μ A xs.length xs
theorem IntsV.mono {μ μ' : Mem} {v : Value} {xs : List Int} (h : IntsV μ v xs) (hle : MLe μ μ') : IntsV μ' v xs := by
  obtain ⟨A, c, h1, h2⟩ := h
  exact ⟨A, c, h1, h2.mono hle⟩
theorem IntsV.one {μ : Mem} {v : Value} {xs : List Int} (h : IntsV μ v xs) : v.oneCell' = true := by
  obtain ⟨A, c, rfl, _⟩ := h
  rfl
theorem IntsV.nil (μ : Mem) : IntsV μ (.slice none 0 0) [] := ⟨none, 0, rfl, Sl.nil _ _ _ _⟩
theorem IntsV.of_row {μ : Mem} {v : Value} {e n : Nat} {xs : List Int} {ys : List Value} (h : Bk.sh (.inr ⟨v, e, 1, n, ys⟩) μ) (hn : xs.length = n) (hx : ys = xs.flatMap encIn) : IntsV μ v xs := by
  obtain ⟨A, c, h1, h2⟩ := row_sl (enc := encIn) h hn (fun x _ => rfl) hx
  subst hn
  exact ⟨A, c, h1, h2⟩
def ixF (n : Int) : List Int → Nat → Int
  | [], _ => -1
  | x :: r, k => if n = x then k else ixF n r (k + 1)
theorem ixF_has (n : Int) : ∀ (xs : List Int) (k : Nat), decide (0 ≤ ixF n xs k) = xs.contains n
  | [], k => rfl
  | x :: r, k => by
    rw [ixF, List.contains_cons]
    by_cases h : n = x
    · rw [if_pos h, h]
      simp
    · rw [if_neg h, ixF_has n r (k + 1)]
      have : (n == x) = false := by simpa using h
      rw [this, Bool.false_or]
theorem ints_ext {xs ys : List Int} (hl : xs.length = ys.length) {k : Nat} (hk : ys.length ≤ k) (h : ∀ (j : Nat) (x y : Int), j < k → xs[j]? = some x → ys[j]? = some y → x = y) : xs = ys := by
  apply List.ext_getElem? 
  intro j
  rcases Nat.lt_or_ge j ys.length with hj | hj
  · have h1 : xs[j]? = some xs[j] := List.getElem?_eq_getElem (by omega)
    have h2 : ys[j]? = some ys[j] := List.getElem?_eq_getElem hj
    rw [h1, h2, h j _ _ (by omega) h1 h2]
  · rw [List.getElem?_eq_none (by omega), List.getElem?_eq_none hj]
attribute [local irreducible] G GC GQ GA GAop Calls IntKind.wrap Int.decLt Int.decLe
theorem pequal_spec (v1 v2 : Value) (xs ys : List Int) (w : World) (μ : Mem) (hμ : MOk μ w) (h1 : IntsV μ v1 xs) (h2 : IntsV μ v2 ys) (hxl : xs.length ≤ 100000000) (hyl : ys.length ≤ 100000000) : Calls Tryz.prog 137 #[v1, v2] w fun e w' => e = .returned (.bool (decide (xs = ys))) ∧ Below w.heap.size w w' := by
  obtain ⟨A, c, rfl, hS⟩ := h1
  obtain ⟨B, d, rfl, hS2⟩ := h2
  refine call_intro (args := [.slice A xs.length c, .slice B ys.length d]) Tryz.func137 rfl Tryz.ntmps137 (by simp) hμ ?_
  by_cases hl : xs.length = ys.length
  · generalize hR : decide (xs = ys) = R
    repeat' (first | refine KK ?_ | (refine KB ?_ ?_ <;> intro hp) | refine KG ?_ | fail)
    all_goals try (exfalso; omega)
    refine gc_loop (ι := Nat) (fun k => k ≤ ys.length ∧ ∀ (j : Nat) (x y : Int), j < k → xs[j]? = some x → ys[j]? = some y → x = y) (fun k => ys.length - k) (fun _ => μ) (fun k => [(13, .int .i64 (k : Int)), (12, .int .i64 (xs.length : Int)), (0, .slice A xs.length c), (1, .slice B ys.length d)]) (fun _ => []) 0 ⟨by omega, fun j _ _ h => absurd h (by omega)⟩ (fun a w hs => hs.sel PU PS) ?_
    rintro k ⟨hk1, hkk⟩
    by_cases hlt : k < ys.length
    · obtain ⟨ad, x, rfl, hx, hm⟩ := hS.get (show k < xs.length by omega)
      obtain ⟨ad2, y, rfl, hy, hm2⟩ := hS2.get hlt
      by_cases hxy : x = y
      · repeat' (first | refine KK ?_ | (refine KB ?_ ?_ <;> intro hp) | refine KG ?_ | fail)
        all_goals try (exfalso; omega)
        refine gc_draw 9 ([]) (by kernel_rfl) rfl (by first | exact List.Sublist.refl _ | simp) ?_
        all_goals refine DD 0 ?_
        all_goals refine DD 1 ?_
        all_goals (first | refine D1 2 ?_ | (refine DV (k := 2) (b := by first | exact U1 k | exact U3 (hm.at 0 rfl) | exact U3 (hm2.at 0 rfl)) (c := ?_)) | refine DD 2 ?_ | fail)
        all_goals (first | refine D1 3 ?_ | (refine DV (k := 3) (b := by first | exact U1 k | exact U3 (hm.at 0 rfl) | exact U3 (hm2.at 0 rfl)) (c := ?_)) | (refine D3 3 (DW (b := by first | exact U1 k | exact U3 (hm.at 0 rfl) | exact U3 (hm2.at 0 rfl)) (c := ?_))) | refine DD 3 ?_ | fail)
        all_goals refine DD 4 ?_
        all_goals refine DD 5 ?_
        all_goals (first | refine D1 6 ?_ | (refine DV (k := 6) (b := by first | exact U1 k | exact U3 (hm.at 0 rfl) | exact U3 (hm2.at 0 rfl)) (c := ?_)) | refine DD 6 ?_ | fail)
        all_goals (first | refine D1 7 ?_ | (refine DV (k := 7) (b := by first | exact U1 k | exact U3 (hm.at 0 rfl) | exact U3 (hm2.at 0 rfl)) (c := ?_)) | (refine D3 7 (DW (b := by first | exact U1 k | exact U3 (hm.at 0 rfl) | exact U3 (hm2.at 0 rfl)) (c := ?_))) | refine DD 7 ?_ | fail)
        all_goals (first | refine D1 8 ?_ | (refine DV (k := 8) (b := by first | exact U1 k | exact U3 (hm.at 0 rfl) | exact U3 (hm2.at 0 rfl)) (c := ?_)) | refine DD 8 ?_ | fail)
        all_goals refine D8 ?_
        all_goals repeat' (first | refine KK ?_ | (refine KB ?_ ?_ <;> intro hp) | refine KG ?_ | fail)
        all_goals try (exfalso; omega)
        refine J2 (k + 1) ⟨by omega, fun j x2 y2 hj h3 h4 => ?_⟩ (by omega)
        rcases Nat.lt_or_ge j k with h | h
        · exact hkk j x2 y2 h h3 h4
        · have : j = k := by omega
          subst this
          rw [hx] at h3
          rw [hy] at h4
          cases h3
          cases h4
          exact hxy
      · have hF : false = R := by
          rw [← hR]
          symm
          rw [decide_eq_false_iff_not]
          intro h
          rw [h, hy] at hx
          cases hx
          exact hxy rfl
        repeat' (first | refine KK ?_ | (refine KB ?_ ?_ <;> intro hp) | refine KG ?_ | fail)
        all_goals try (exfalso; omega)
        refine gc_draw 9 ([]) (by kernel_rfl) rfl (by first | exact List.Sublist.refl _ | simp) ?_
        all_goals refine DD 0 ?_
        all_goals refine DD 1 ?_
        all_goals (first | refine D1 2 ?_ | (refine DV (k := 2) (b := by first | exact U1 k | exact U3 (hm.at 0 rfl) | exact U3 (hm2.at 0 rfl)) (c := ?_)) | refine DD 2 ?_ | fail)
        all_goals (first | refine D1 3 ?_ | (refine DV (k := 3) (b := by first | exact U1 k | exact U3 (hm.at 0 rfl) | exact U3 (hm2.at 0 rfl)) (c := ?_)) | (refine D3 3 (DW (b := by first | exact U1 k | exact U3 (hm.at 0 rfl) | exact U3 (hm2.at 0 rfl)) (c := ?_))) | refine DD 3 ?_ | fail)
        all_goals refine DD 4 ?_
        all_goals refine DD 5 ?_
        all_goals (first | refine D1 6 ?_ | (refine DV (k := 6) (b := by first | exact U1 k | exact U3 (hm.at 0 rfl) | exact U3 (hm2.at 0 rfl)) (c := ?_)) | refine DD 6 ?_ | fail)
        all_goals (first | refine D1 7 ?_ | (refine DV (k := 7) (b := by first | exact U1 k | exact U3 (hm.at 0 rfl) | exact U3 (hm2.at 0 rfl)) (c := ?_)) | (refine D3 7 (DW (b := by first | exact U1 k | exact U3 (hm.at 0 rfl) | exact U3 (hm2.at 0 rfl)) (c := ?_))) | refine DD 7 ?_ | fail)
        all_goals (first | refine D1 8 ?_ | (refine DV (k := 8) (b := by first | exact U1 k | exact U3 (hm.at 0 rfl) | exact U3 (hm2.at 0 rfl)) (c := ?_)) | refine DD 8 ?_ | fail)
        all_goals refine D8 ?_
        all_goals repeat' (first | refine KK ?_ | (refine KB ?_ ?_ <;> intro hp) | refine KG ?_ | fail)
        all_goals try (exfalso; omega)
        all_goals exact ret_s rfl rfl (congrArg _ hF)
    · have hT : true = R := by
        rw [← hR]
        symm
        rw [decide_eq_true_iff]
        exact ints_ext hl (by omega) hkk
      repeat' (first | refine KK ?_ | (refine KB ?_ ?_ <;> intro hp) | refine KG ?_ | fail)
      all_goals try (exfalso; omega)
      all_goals exact ret_s rfl rfl (congrArg _ hT)
  · have hF : decide (xs = ys) = false := decide_eq_false (fun h => hl (by rw [h]))
    rw [hF]
    repeat' (first | refine KK ?_ | (refine KB ?_ ?_ <;> intro hp) | refine KG ?_ | fail)
    all_goals first | (exfalso; omega) | exact ret_s rfl rfl rfl
theorem pindex_spec (v1 : Value) (xs : List Int) (n : Int) (w : World) (μ : Mem) (hμ : MOk μ w) (h1 : IntsV μ v1 xs) (hxl : xs.length ≤ 100000000) : Calls Tryz.prog 157 #[v1, .int .i64 n] w fun e w' => e = .returned (.int .i64 (ixF n xs 0)) ∧ Below w.heap.size w w' := by
  obtain ⟨A, c, rfl, hS⟩ := h1
  refine call_intro (args := [.slice A xs.length c, .int .i64 n]) Tryz.func157 rfl Tryz.ntmps157 (by simp) hμ ?_
  generalize hR : ixF n xs 0 = R
  repeat' (first | refine KK ?_ | (refine KB ?_ ?_ <;> intro hp) | refine KG ?_ | fail)
  refine gc_loop (ι := Nat) (fun k => k ≤ xs.length ∧ ixF n (xs.drop k) k = R) (fun k => xs.length - k) (fun _ => μ) (fun k => [(8, .int .i64 (k : Int)), (7, .int .i64 (xs.length : Int)), (0, .slice A xs.length c), (1, .int .i64 n)]) (fun _ => []) 0 ⟨by omega, by simpa using hR⟩ (fun a w hs => hs.sel PU PS) ?_
  rintro k ⟨hk1, hkk⟩
  by_cases hlt : k < xs.length
  · obtain ⟨ad, x, rfl, hx, hm⟩ := hS.get hlt
    rw [dropc hx, ixF] at hkk
    by_cases hxy : n = x
    · rw [if_pos hxy] at hkk
      repeat' (first | refine KO ?_ | (refine KV (b := by first | exact U1 k | exact U3 (hm.at 0 rfl)) (c := ?_)) | refine KI ?_ | (refine KB ?_ ?_ <;> intro hp) | refine KG ?_ | fail)
      all_goals first | (exfalso; omega) | exact ret_s rfl rfl (congrArg _ hkk)
    · rw [if_neg hxy] at hkk
      repeat' (first | refine KO ?_ | (refine KV (b := by first | exact U1 k | exact U3 (hm.at 0 rfl)) (c := ?_)) | refine KI ?_ | (refine KB ?_ ?_ <;> intro hp) | refine KG ?_ | fail)
      all_goals first | (exfalso; omega) | exact J2 (k + 1) ⟨by omega, hkk⟩ (by omega)
  · rw [List.drop_of_length_le (by omega), ixF] at hkk
    repeat' (first | refine KK ?_ | (refine KB ?_ ?_ <;> intro hp) | refine KG ?_ | fail)
    all_goals first | (exfalso; omega) | exact ret_s rfl rfl (congrArg _ hkk)
theorem pcontains_spec (v1 : Value) (xs : List Int) (n : Int) (w : World) (μ : Mem) (hμ : MOk μ w) (h1 : IntsV μ v1 xs) (hxl : xs.length ≤ 100000000) : Calls Tryz.prog 138 #[v1, .int .i64 n] w fun e w' => e = .returned (.bool (xs.contains n)) ∧ Below w.heap.size w w' := by
  rw [← ixF_has n xs 0]
  refine call_intro (args := [v1, .int .i64 n]) Tryz.func138 rfl Tryz.ntmps138 (by simp) hμ ?_
  repeat' (first | refine KO ?_ | ((with_reducible apply F1 157); exact rfl; exact EN; (exact fun w μc hw hse => pindex_spec _ xs n w μc hw (h1.mono hse.le) hxl)) | refine KI ?_ | (refine KB ?_ ?_ <;> intro hp) | refine KG ?_ | fail)
  all_goals exact ret_s rfl rfl rfl
theorem pclone_spec (v1 : Value) (xs : List Int) (w : World) (μ : Mem) (hμ : MOk μ w) (h1 : IntsV μ v1 xs) (hxl : xs.length ≤ 100000000) : Calls Tryz.prog 112 #[v1] w (RowPost w 3 1 xs.length (xs.flatMap encIn)) := by
  obtain ⟨A, c, rfl, hS⟩ := h1
  have h2 := encIn_len xs
  have h3 := encIn_one xs
  refine call_intro (args := [.slice A xs.length c]) Tryz.func112 rfl Tryz.ntmps112 (by simp) hμ ?_
  cases A with
  | none =>
    have : xs = [] := by
      cases xs with
      | nil => rfl
      | cons x r =>
        obtain ⟨ad, e, _⟩ := hS.2 (by simp)
        cases e
    subst this
    repeat' (first | refine KO ?_ | (refine KV (b := by first | ((with_reducible apply v_isnil); exact rfl; exact rfl)) (c := ?_)) | refine KI ?_ | refine NB fun b => ?_ | (refine KB ?_ ?_ <;> intro hp) | refine KG ?_ | fail)
    exact gq_nilRow 3 1 (ret_row 0 rfl rfl rfl)
  | some ad =>
    repeat' (first | ((with_reducible apply g_row0 1)) | refine KO ?_ | (first | ((with_reducible apply g_ap); exact rfl; exact rfl; exact rfl; (repeat first | with_reducible exact rowup_hd | with_reducible apply rowup_tl); (iterate 6 exact rfl); (first | ((with_reducible apply src_sh); exact rfl; exact hS; simp) | ((with_reducible apply src_in); exact rfl; (repeat first | with_reducible exact inb_hd | with_reducible apply inb_tl); exact rfl)); (first | exact rfl | omega | simp); (first | assumption | (exact ones_mem (by (repeat first | with_reducible exact ones_nil | ((with_reducible apply ones_cons); (first | exact rfl | assumption))))) | simp [Value.oneCell']); omega; omega; intro v) | ((with_reducible apply g_append0); (iterate 9 exact rfl); (first | ((with_reducible apply src_sh); exact rfl; exact hS; simp) | ((with_reducible apply src_in); exact rfl; (repeat first | with_reducible exact inb_hd | with_reducible apply inb_tl); exact rfl)); (first | exact rfl | omega | simp); (first | assumption | (exact ones_mem (by (repeat first | with_reducible exact ones_nil | ((with_reducible apply ones_cons); (first | exact rfl | assumption))))) | simp [Value.oneCell']); omega; omega; intro v)) | (refine KV (b := by first | ((with_reducible apply v_isnil); exact rfl; exact rfl)) (c := ?_)) | refine KI ?_ | refine NB fun b => ?_ | (refine KB ?_ ?_ <;> intro hp) | refine KG ?_ | fail)
    simp only [Nat.zero_add, List.nil_append]
    exact ret_row 0 rfl rfl rfl
end
end Go.Proofs.YtoclmkdfcafhfaaGreatDoor
namespace Go.Proofs.YtoclmkdfcafhfaaGreatDoor.Iq
open Go Go.Proofs.YtoclmkdfcafhfaaGreatDoor.Ou
def Nx (n : Nat) (c : CkS) : Prop := (∀ x ∈ c.next, 0 ≤ x ∧ x < (n : Int)) ∧ ∀ k, c.met.getD k false = false → c.slots.getD k [] = []
section
variable {row : Int → List UInt8 × List UInt8} {fs : Fns}
theorem stands_nx (f op n m : Int) (p : PlP) (c : CkS) (hl : c.met.length = fs.length) (hn : numbB op n (locOf fs f) fs.length = true) (h : Nx fs.length c) : Nx fs.length (standsF fs f op n m p c).1 := by
  unfold standsF
  split
  · exact h
  split
  · rename_i h119
    dsimp only
    split
    · exact h
    · have hr : 1 ≤ n ∧ n ≤ (fs.length : Int) - 1 := by
        subst h119
        simp [numbB] at hn
        exact inI_t hn
      refine ⟨fun x hx => ?_, fun k hk => ?_⟩
      · dsimp only at hx
        rcases List.mem_append.1 hx with hx | hx
        · exact h.1 x hx
        · cases List.mem_singleton.1 hx
          omega
      · dsimp only at hk ⊢
        by_cases hkn : n.toNat = k
        · exfalso
          subst hkn
          have : (c.met.set n.toNat true).getD n.toNat false = true := getD_set.2 (.inl ⟨rfl, by rw [hl]; omega⟩)
          rw [this] at hk
          cases hk
        · have h1 : c.met.getD k false = false := by
            cases he : c.met.getD k false with
            | false => rfl
            | true =>
              have : (c.met.set n.toNat true).getD k false = true := getD_set.2 (.inr he)
              rw [this] at hk
              cases hk
          have h2 := h.2 k h1
          rw [List.getD_eq_getElem?_getD, List.getElem?_set_ne hkn, ← List.getD_eq_getElem?_getD]
          exact h2
  split
  · exact h
  split
  · exact h
  split
  · exact h
  split
  · exact h
  · exact h
mutual
theorem node_nx : ∀ (t : T) (f : Int) (p : PlP) (deep : Int) (c : CkS), c.met.length = fs.length → Nx fs.length c → Nx fs.length (nodeF row fs f t p deep c).1
  | .mk op a n m s kids, f, p, deep, c, hl, h => by
    simp only [nodeF]
    split
    · rename_i hsh
      have hn := (shape_parts hsh).2.2.2
      have hs := stands_len f op n m p c hl hn
      have hx := stands_nx f op n m p c hl hn h
      split
      · exact kids_nx kids f op n m _ deep 0 _ (hs.1.trans hl) hx
      · exact hx
    · exact h
theorem kids_nx : ∀ (ts : List T) (f op n m : Int) (p : PlP) (deep : Int) (i : Nat) (c : CkS), c.met.length = fs.length → Nx fs.length c → Nx fs.length (kidsF row fs f op n m p deep ts i c).1
  | [], _, _, _, _, _, _, _, _, _, h => by
    simp only [kidsF]
    exact h
  | t :: ts, f, op, n, m, p, deep, i, c, hl, h => by
    simp only [kidsF]
    have h1 := node_len (row := row) t f (atKid op n m p i) (deep + 1) c hl
    have h2 := node_nx t f (atKid op n m p i) (deep + 1) c hl h
    split
    · exact kids_nx ts f op n m p deep (i + 1) _ (h1.1.trans hl) h2
    · exact h2
end
def begF (f : Nat) (c : CkS) : CkS := { c with met := c.met.set f true, next := [(f : Int)] }
theorem beg_nx {n f : Nat} {c : CkS} (h : Nx n c) (hf : f < n) : Nx n (begF f c) := by
  refine ⟨fun x hx => ?_, fun k hk => ?_⟩
  · cases List.mem_singleton.1 hx
    omega
  · have h1 : c.met.getD k false = false := by
      cases he : c.met.getD k false with
      | false => rfl
      | true =>
        have : (c.met.set f true).getD k false = true := getD_set.2 (.inr he)
        unfold begF at hk
        dsimp only at hk
        rw [this] at hk
        cases hk
    exact h.2 k h1
theorem beg_meas {f : Nat} {c : CkS} (hf : f < c.met.length) (hm : c.met.getD f false = false) : meas (begF f c) ≤ c.met.length := by
  have h1 := count_set hf (by rw [hm]; simp)
  have h2 : c.met.count false ≤ c.met.length := List.count_le_length
  unfold meas unmet begF
  simp only [List.length_cons, List.length_nil]
  omega
theorem beg_ck {n f : Nat} {c : CkS} (hc : CkOk c n) (hf : f < n) (hm : c.met.getD f false = false) : CkOk (begF f c) n ∧ cnt c.met ≤ cnt (begF f c).met := by
  have h1 := cnt_set (l := c.met) (k := f) (by rw [hc.1]; exact hf) (by rw [hm]; simp)
  unfold begF
  refine ⟨⟨by rw [List.length_set]; exact hc.1, fun l hl => ?_⟩, by dsimp only; omega⟩
  have := hc.2 l hl
  dsimp only
  exact ⟨by omega, this.2⟩
theorem queue_nil (bodies : List T) (g : Nat) (c : CkS) (h : c.next = []) : queueF row fs bodies g c = (c, true) := by
  cases g with
  | zero => unfold queueF; rw [h]; rfl
  | succ g => unfold queueF; rw [h]
theorem queue_cons (bodies : List T) (g : Nat) (c : CkS) {x : Int} {r : List Int} (h : c.next = x :: r) : queueF row fs bodies (g + 1) c = (if isS (bodies.getD x.toNat (.mk 0 0 0 0 ⟨#[]⟩ [])).op = true then (if (nodeF row fs x (bodies.getD x.toNat (.mk 0 0 0 0 ⟨#[]⟩ [])) ⟨c.slots.getD x.toNat [], [], [], false⟩ 1 { c with next := r }).2 = true then queueF row fs bodies g (nodeF row fs x (bodies.getD x.toNat (.mk 0 0 0 0 ⟨#[]⟩ [])) ⟨c.slots.getD x.toNat [], [], [], false⟩ 1 { c with next := r }).1 else ((nodeF row fs x (bodies.getD x.toNat (.mk 0 0 0 0 ⟨#[]⟩ [])) ⟨c.slots.getD x.toNat [], [], [], false⟩ 1 { c with next := r }).1, false)) else ({ c with next := r }, false)) := by
  conv => lhs; unfold queueF
  rw [h]
end
end Go.Proofs.YtoclmkdfcafhfaaGreatDoor.Iq
namespace Go.Vcg
open Go.RowKit
section
variable {P : Program} {X : Ctx} {ops : Array Oper} {Q : Exit → Act → World → Prop} {μ μr : Mem} {l : Slots} {L Lr : List Bk} {fuel i : Nat} {listed : Array Bool}
theorem gc_drawS {id : Nat} (n : Nat) (Lr : List Bk) (hm : P.follows .mixedOrders = true) (hn : ops.size = n) (hL : Sel Lr L) (h : GA P X μ Lr ops Q n (Array.replicate n false) μ l L) : GC P X (.region id ops true) Q μ l L :=
  fun a _ hs => wp_region_held hm (by subst hn; exact h a _ hs.draw ⟨hs.draw.mem, fun x hx => let ⟨y, hy, hle⟩ := sel_mem hL x hx; hle.at (hs.draw.own y hy)⟩)
theorem g_ga_nilS (hle : MLe μr μ) (hLr : Sel Lr L) (h : GA P X μr Lr ops Q fuel listed μ l L) : G P X ops (QA Q (fun a w => Sm μr Lr w ∧ wpAnyH P .any ops Q (Sm μr Lr) fuel listed a w)) [] μ l L := fun a w hs =>
  have hS : Sm μr Lr w := ⟨fun b x e => hs.mem b x (hle b x e), fun x hx => let ⟨y, hy, hle⟩ := sel_mem hLr x hx; hle.at (hs.own y hy)⟩
  ⟨hS, h a w hs hS⟩
theorem g_row1 {b t : Nat} {cs : Slots} {v : Value} {rest : List Oper} (hc : lk cs 0 = some v) (h : G P X ops Q rest μ l (.inr ⟨.slice (some ⟨b, 0, none⟩) 1 1, t, 1, 1, [v]⟩ :: L)) : G P X ops Q rest μ l (.inl ⟨b, t, 1, cs⟩ :: L) := fun a w hs =>
  h a w (St.blkRow (n := 1) (s := 1) hs (lc_cons hc lc_nil) (by decide))
theorem UR1 {M B : Prop} (hm : M) (f : M → B := by intro h; (with_reducible apply v_load_row 1); exact rfl; exact rfl; exact rfl; exact h) : B := f hm
theorem UR2 {M B : Prop} (hm : M) (f : M → B := by intro h; (with_reducible apply v_load_row 2); exact rfl; exact rfl; exact rfl; exact h) : B := f hm
theorem UR3 {M B : Prop} (hm : M) (f : M → B := by intro h; (with_reducible apply v_load_row 3); exact rfl; exact rfl; exact rfl; exact h) : B := f hm
theorem nth_updB {x y : Bk} : ∀ {L : List Bk} {i : Nat}, nthB L i = some x → nthB (updB L i y) i = some y
  | [], _, h => by simp [nthB] at h
  | z :: r, 0, h => rfl
  | z :: r, i + 1, h => nth_updB (i := i) (by simpa [nthB] using h)
section
variable {rest : List Oper} {o : Oper} {d : Nat} {ty : TypeId} {pos : String} {af : Array Edge} {gd : Option (Nat × Bool)}
theorem AI {p q : Operand} {t e : TypeId} {bytes n : Nat} {z v u : Value} {xs : List Value} {F : Rw → List Bk}
    (hn : Nat.blt d X.n = true := by exact rfl) (hw : wants ops l ⟨some d, .call { callee := .builtin .append, args := #[p, q], argTypes := #[t, t] }, ty, pos, af, gd⟩ = some true := by exact rfl)
    (hp : ev l p = some v := by exact rfl) (hr : RowUp L ⟨v, e, 1, n, xs⟩ F := by (repeat first | with_reducible exact rowup_hd | with_reducible apply rowup_tl)) (ht : P.underlying t = some (.slice e) := by exact rfl) (hs : sizeT P e = some 1 := by exact rfl) (hz : zeroT P e = some z := by exact rfl) (hzs : z.cells.toList.length = 1 := by exact rfl) (hby : bytesT P e = some bytes := by exact rfl)
    (S : Src μ l L q 1 [u] := by (with_reducible apply src_in); exact rfl; (repeat first | with_reducible exact inb_hd | with_reducible apply inb_tl); exact rfl) (O : u.oneCell' = true := by exact rfl) (B : (n + 1) * bytes ≤ 140737488355328 := by omega) (C : n + 1 ≤ 140737488355328 := by omega)
    (k : ∀ g cap, n + 1 ≤ cap → G P X ops Q rest μ ((d, .slice (some ⟨g, 0, none⟩) (n + 1) cap) :: l) (F ⟨.slice (some ⟨g, 0, none⟩) (n + 1) cap, e, 1, n + 1, xs ++ [u]⟩)) :
    G P X ops Q (⟨some d, .call { callee := .builtin .append, args := #[p, q], argTypes := #[t, t] }, ty, pos, af, gd⟩ :: rest) μ l L :=
  g_ap hn hw hp hr ht hs hz hzs hby rfl S rfl (fun x hx => by rw [List.mem_singleton.1 hx]; exact O) B C fun v' => by
    obtain ⟨i, h1, h2⟩ := hr
    rw [h2]
    refine g_rowForm i (nth_updB h1) (by omega) fun g cap hv hc => ?_
    subst hv
    have := k g cap hc
    rwa [h2] at this
end
theorem D9S (h : GA P X μr Lr ops Q fuel listed μ l L)
    (hle : MLe μr μ := by first | exact MLe.refl _ | assumption | (focus (repeat (first | exact MLe.refl _ | assumption | (apply MLe.trans; rotate_left; assumption)))); done | fail)
    (hLr : Sel Lr L := by first | exact PS | fail) :
    G P X ops (QA Q (fun a w => Sm μr Lr w ∧ wpAnyH P .any ops Q (Sm μr Lr) fuel listed a w)) [] μ l L := g_ga_nilS (hle := hle) (hLr := hLr) (h := h)
end
end Go.Vcg
namespace Go.Proofs.YtoclmkdfcafhfaaGreatDoor
section
open Go.Rex
open Go.RowKit Go.Vcg Go.Shelf
theorem names_all : rowT.all (fun x => !x.2.1.isEmpty && (x.2.1.all (fun c => decide (c ≠ 32)) && Nat.ble (x.2.1.length + x.2.2.length) 100)) = true := by kernel_rfl
theorem find_mem {k : Nat} {x : List UInt8 × List UInt8} : ∀ {l : List Row}, findR k l = some x → ∃ j, (j, x) ∈ l
  | [], h => by cases h
  | (j, y) :: r, h => by
    unfold findR at h
    split at h
    · cases h
      exact ⟨j, List.mem_cons_self ..⟩
    · obtain ⟨i, hi⟩ := find_mem h
      exact ⟨i, List.mem_cons_of_mem _ hi⟩
theorem row_facts (op : Int) : (∀ c ∈ (rowI op).1, c ≠ 32) ∧ ((rowI op).1.length + (rowI op).2.length ≤ 100) ∧ ((rowI op).1 = [] → (rowI op).2 = []) := by
  rcases kinds op with ⟨k, x, rfl, h1, h2⟩ | ⟨h1, h2⟩
  · rw [h2]
    obtain ⟨j, hj⟩ := find_mem h1
    have := List.all_eq_true.1 names_all _ hj
    simp only [Bool.and_eq_true, List.all_eq_true, decide_eq_true_eq, Nat.ble_eq] at this
    refine ⟨this.2.1, this.2.2, fun h => ?_⟩
    rw [h] at this
    exact absurd this.1 (by simp)
  · rw [h2]
    exact ⟨by simp, by simp, fun _ => rfl⟩
attribute [local irreducible] rowI G GC GQ GA GAop Calls IntKind.wrap Int.decLt Int.decLe
end
section
open Go.RowKit Go.Vcg Ou
attribute [local irreducible] G GC GQ GA GAop Calls IntKind.wrap Int.decLt Int.decLe
end
end Go.Proofs.YtoclmkdfcafhfaaGreatDoor
