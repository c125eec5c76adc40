/- Package ir: the check of a node and its descendants, the program's side. -/
import Derived.Test.YtoclmkdfcafhfaaGreatDoorQar
set_option maxRecDepth 20000
set_option maxHeartbeats 2000000
namespace Go.Proofs.YtoclmkdfcafhfaaGreatDoor
open Go.RowKit Go.Vcg Ou
attribute [local irreducible] Iq.nodeF Iq.kidsF Iq.standsF Iq.shapeB rowI G GC GQ GA GAop Calls IntKind.wrap Int.decLt Int.decLe
theorem row_id {μ : Mem} {v : Value} {e s n : Nat} {ys : List Value} (h : Bk.sh (.inr ⟨v, e, s, n, ys⟩) μ) : Bk.sh (.inr ⟨v, e, s, n, ys⟩) μ := h
theorem more129 {m : Int} (h : Iq.moreB 129 m = true) : 0 ≤ m ∧ m ≤ 1 := by
  have e : Iq.moreB 129 m = Iq.inI m 0 1 := by simp [Iq.moreB]
  rw [e] at h
  exact Iq.inI_t h
theorem pnode_spec : ∀ (N : Nat), PNodeC N := by
  intro N
  induction N with
  | zero => intro ps A cc n fb gm gs t u f p v1 v2 v3 deep c i w μ hμ hO hmq hU hf hk hall hN; exact absurd hN (by rw [T.size_eq]; omega)
  | succ N ih =>
    intro ps A cc n fb gm gs t u f p v1 v2 v3 deep c i w μ hμ hO hmq hU hf hk hall hN hsz hp hi hB hP hd1 hd2
    have hcnt := ids_count hO.diff
    have hpl : ps.length = n := hU.fs.1.1
    have hfl : (fnsV ps).length = n := by rw [List.length_map]; exact hpl
    have hn1 := hU.n1
    have ho := hk.one
    have hkl := kids_le t
    have hop := qN_op hall
    have hs := qN_s hall
    have hloc := loc_le hU
    have hmm := maxM_ofQ hmq
    obtain ⟨rf1, rf2, rf3⟩ := row_facts t.op
    have hrow : ∀ (w : World) (μc : Mem), MOk μc w → MLe μ μc → Calls Tryz.prog 24 #[.int .i64 t.op] w fun e w' => e = .returned (.tuple #[.string (ofB (rowI t.op).1), .string (ofB (rowI t.op).2)]) ∧ Below w.heap.size w w' := fun w μc hw hle => row_spec w μc hw (hmm.mono hle) t.op hop
    obtain ⟨adU, y, rfl, hy, hmU⟩ := hU.fs.1.get hf
    have hyo := (hU.fs.2.2 y (List.mem_of_getElem? hy)).1.one
    have hyl := (hU.kd y (List.mem_of_getElem? hy)).2
    have hp0 := hp
    have ho2 := hp.2.1.one
    have ho3 := hp.2.2.one
    obtain ⟨A1, c1, rfl, hS1⟩ := hp.1
    have hsl1 := hP.sl hB hn1 (by omega)
    have hbl2 := hP.b1
    have hbl3 := hP.b2
    obtain ⟨A0, cK, rfl, hlc, hget⟩ := hk.form
    generalize hR : Iq.nodeF rowI (fnsV ps) f t p deep c = R
    rw [nodeF_eq] at hR
    refine call_introM (args := [.pointer (some ⟨fb, 0, none⟩), .agg (encT t (.slice A0 t.kids.length cK)).toArray, .int .i64 (f : Int), .agg #[(Value.slice A1 p.slots.length c1), v2, v3, .bool p.inSc], .int .i64 deep]) Tryz.func76 rfl Tryz.ntmps76 (by simp) hμ hO ?_
    repeat' (first | ((with_reducible show GC _ _ (Code.seq (Code.region 1 _ _) _) _ _ _ _); (apply gc_stop)) | refine KK ?_ | refine NB fun b => ?_ | (refine KB ?_ ?_ <;> intro hp) | refine KG ?_ | fail)
    rename_i bn
    obtain ⟨bp, hbp⟩ : ∃ x, x = b := ⟨_, rfl⟩
    rw [← hbp]
    clear hbp
    refine gcs (gc_sel (l' := [(0, .pointer (some ⟨fb, 0, none⟩)), (2, .int .i64 (f : Int)), (4, .int .i64 deep), (6, .pointer (some ⟨bn, 0, none⟩)), (8, .pointer (some ⟨bp, 0, none⟩))]) (L' := ckP fb gm gs n (.slice (some adU) n cc) c i ++ [.inl ⟨bn, 42, 6, idx 0 (encT t (.slice A0 t.kids.length cK))⟩, .inl ⟨bp, 116, 4, idx 0 [(Value.slice A1 p.slots.length c1), v2, v3, .bool p.inSc]⟩]) PU PS ?_)
    dsimp only [List.cons_append, List.nil_append]
    by_cases h1 : deep ≤ 2048
    rotate_left
    · skip
      have hsh : Iq.shapeB rowI (fnsV ps) t f deep = false := by rw [shape_eq]; simp [h1]
      rw [hsh, if_neg (by simp)] at hR
      subst hR
      repeat' (first | refine KO ?_ | ((with_reducible apply F1 24); exact rfl; exact EN; (exact fun w μc hw hse => hrow w μc hw hse.le)) | refine KI ?_ | refine NB fun b => ?_ | (refine KB ?_ ?_ <;> intro hp) | refine KG ?_ | fail)
      all_goals first | (exfalso; omega) | (refine gq_sel (l' := [(10, .bool false)]) (L' := ckP fb gm gs n (.slice (some adU) n cc) c i) PU PS ?_; exact ck_ret hcnt rfl (rv_tmp rfl) i rfl rfl hi)
    by_cases h2 : (rowI t.op).1 = []
    · have h2n : ofB (rowI t.op).1 = ⟨#[]⟩ := by rw [h2]; rfl
      have hsh : Iq.shapeB rowI (fnsV ps) t f deep = false := by rw [shape_eq]; simp [h2]
      rw [hsh, if_neg (by simp)] at hR
      subst hR
      repeat' (first | refine KO ?_ | ((with_reducible apply F1 24); exact rfl; exact EN; (exact fun w μc hw hse => hrow w μc hw hse.le)) | refine KI ?_ | refine NB fun b => ?_ | (refine KB ?_ ?_ <;> intro hp) | refine KG ?_ | fail)
      all_goals first | (exfalso; omega) | (refine gq_sel (l' := [(10, .bool false)]) (L' := ckP fb gm gs n (.slice (some adU) n cc) c i) PU PS ?_; exact ck_ret hcnt rfl (rv_tmp rfl) i rfl rfl hi)
    have h2n : ¬ ofB (rowI t.op).1 = ⟨#[]⟩ := fun h => h2 (by have := congrArg bl h; rwa [bl_of] at this)
    cases h3 : Iq.kidsB (rowI t.op).2 (t.kids.map T.op)
    · skip
      have hsh : Iq.shapeB rowI (fnsV ps) t f deep = false := by rw [shape_eq]; simp [h3]
      rw [hsh, if_neg (by simp)] at hR
      subst hR
      repeat' (first | refine KO ?_ | ((with_reducible apply F1 24); exact rfl; exact EN; (exact fun w μc hw hse => hrow w μc hw hse.le)) | ((with_reducible apply F1 106); exact rfl; exact EN; (exact fun w μc hw hse => pkids_b t.op t.kids _ _ h3 (by omega) w μc hw (hk.mono hse.le) (by omega))) | refine KI ?_ | refine NB fun b => ?_ | (refine KB ?_ ?_ <;> intro hp) | refine KG ?_ | fail)
      all_goals first | (exfalso; omega) | (refine gq_sel (l' := [(10, .bool false)]) (L' := ckP fb gm gs n (.slice (some adU) n cc) c i) PU PS ?_; exact ck_ret hcnt rfl (rv_tmp rfl) i rfl rfl hi)
    cases h4 : Iq.textB t.op t.s.data.toList
    · skip
      have hsh : Iq.shapeB rowI (fnsV ps) t f deep = false := by rw [shape_eq]; simp [h4]
      rw [hsh, if_neg (by simp)] at hR
      subst hR
      repeat' (first | refine KO ?_ | ((with_reducible apply F1 24); exact rfl; exact EN; (exact fun w μc hw hse => hrow w μc hw hse.le)) | ((with_reducible apply F1 106); exact rfl; exact EN; (exact fun w μc hw hse => pkids_b t.op t.kids _ _ h3 (by omega) w μc hw (hk.mono hse.le) (by omega))) | ((with_reducible apply F1 107); exact rfl; exact EN; (exact fun w μc hw hse => ptext_b t _ ho (by omega) _ h4 w μc hw (hmq.mono hse.le))) | refine KI ?_ | refine NB fun b => ?_ | (refine KB ?_ ?_ <;> intro hp) | refine KG ?_ | fail)
      all_goals first | (exfalso; omega) | (refine gq_sel (l' := [(10, .bool false)]) (L' := ckP fb gm gs n (.slice (some adU) n cc) c i) PU PS ?_; exact ck_ret hcnt rfl (rv_tmp rfl) i rfl rfl hi)
    cases h5 : Iq.moreB t.op t.m
    · skip
      have hsh : Iq.shapeB rowI (fnsV ps) t f deep = false := by rw [shape_eq]; simp [h5]
      rw [hsh, if_neg (by simp)] at hR
      subst hR
      repeat' (first | refine KO ?_ | ((with_reducible apply F1 24); exact rfl; exact EN; (exact fun w μc hw hse => hrow w μc hw hse.le)) | ((with_reducible apply F1 106); exact rfl; exact EN; (exact fun w μc hw hse => pkids_b t.op t.kids _ _ h3 (by omega) w μc hw (hk.mono hse.le) (by omega))) | ((with_reducible apply F1 107); exact rfl; exact EN; (exact fun w μc hw hse => ptext_b t _ ho (by omega) _ h4 w μc hw (hmq.mono hse.le))) | ((with_reducible apply F1 108); exact rfl; exact EN; (exact fun w μc hw hse => pmore_b t _ ho _ h5 w μc hw)) | refine KI ?_ | refine NB fun b => ?_ | (refine KB ?_ ?_ <;> intro hp) | refine KG ?_ | fail)
      all_goals first | (exfalso; omega) | (refine gq_sel (l' := [(10, .bool false)]) (L' := ckP fb gm gs n (.slice (some adU) n cc) c i) PU PS ?_; exact ck_ret hcnt rfl (rv_tmp rfl) i rfl rfl hi)
    have hm129 : t.op = 129 → 0 ≤ t.m ∧ t.m ≤ 1 := fun h => more129 (by rw [← h]; exact h5)
    repeat' (first | refine KO ?_ | ((with_reducible apply F1 24); exact rfl; exact EN; (exact fun w μc hw hse => hrow w μc hw hse.le)) | ((with_reducible apply F1 106); exact rfl; exact EN; (exact fun w μc hw hse => pkids_b t.op t.kids _ _ h3 (by omega) w μc hw (hk.mono hse.le) (by omega))) | ((with_reducible apply F1 107); exact rfl; exact EN; (exact fun w μc hw hse => ptext_b t _ ho (by omega) _ h4 w μc hw (hmq.mono hse.le))) | ((with_reducible apply F1 108); exact rfl; exact EN; (exact fun w μc hw hse => pmore_b t _ ho _ h5 w μc hw)) | refine KI ?_ | refine NB fun b => ?_ | (refine KB ?_ ?_ <;> intro hp) | refine KG ?_ | fail)
    all_goals try (exfalso; omega)
    have hlo := locOf_at hy
    cases h6 : Iq.numbB t.op t.n y.1.loc n
    · skip
      have hsh : Iq.shapeB rowI (fnsV ps) t f deep = false := by rw [shape_eq, hlo, hfl]; simp [h6]
      rw [hsh, if_neg (by simp)] at hR
      subst hR
      refine gc_drawS 30 ([.inl ⟨fb, 86, 4, [(0, .slice (some adU) n cc)]⟩, .inl ⟨bn, 42, 6, idx 0 (encT t (.slice A0 t.kids.length cK))⟩, .inl ⟨bp, 116, 4, idx 0 [(Value.slice A1 p.slots.length c1), v2, v3, .bool p.inSc]⟩]) (by kernel_rfl) rfl PS ?_
      all_goals (first | refine D1 0 ?_ | (refine DV (k := 0) (b := by first | exact U1 f | exact U4 hmU) (c := ?_)) | (refine D3 0 (DW (b := by first | exact U1 f | exact U4 hmU) (c := ?_))) | refine DD 0 ?_ | fail)
      all_goals refine DD 1 ?_
      all_goals refine DD 2 ?_
      all_goals (first | refine D1 3 ?_ | (refine DV (k := 3) (b := by first | exact U1 f | exact U4 hmU) (c := ?_)) | refine DD 3 ?_ | fail)
      all_goals (first | refine D1 4 ?_ | (refine DV (k := 4) (b := by first | exact U1 f | exact U4 hmU) (c := ?_)) | refine DD 4 ?_ | fail)
      all_goals (first | refine D1 5 ?_ | (refine DV (k := 5) (b := by first | exact U1 f | exact U4 hmU) (c := ?_)) | (refine D3 5 (DW (b := by first | exact U1 f | exact U4 hmU) (c := ?_))) | refine DD 5 ?_ | fail)
      all_goals refine DD 6 ?_
      all_goals (first | refine D1 7 ?_ | (refine DV (k := 7) (b := by first | exact U1 f | exact U4 hmU) (c := ?_)) | refine DD 7 ?_ | fail)
      all_goals (first | refine D1 8 ?_ | (refine DV (k := 8) (b := by first | exact U1 f | exact U4 hmU) (c := ?_)) | (refine D3 8 (DW (b := by first | exact U1 f | exact U4 hmU) (c := ?_))) | refine DD 8 ?_ | fail)
      all_goals refine DD 9 ?_
      all_goals refine DD 10 ?_
      all_goals (first | refine D1 11 ?_ | (refine DV (k := 11) (b := by first | exact U1 f | exact U4 hmU) (c := ?_)) | refine DD 11 ?_ | fail)
      all_goals (first | refine D1 12 ?_ | (refine DV (k := 12) (b := by first | exact U1 f | exact U4 hmU) (c := ?_)) | refine DD 12 ?_ | fail)
      all_goals (first | refine D1 13 ?_ | (refine DV (k := 13) (b := by first | exact U1 f | exact U4 hmU) (c := ?_)) | (refine D3 13 (DW (b := by first | exact U1 f | exact U4 hmU) (c := ?_))) | refine DD 13 ?_ | fail)
      all_goals (first | refine D1 14 ?_ | (refine DV (k := 14) (b := by first | exact U1 f | exact U4 hmU) (c := ?_)) | refine DD 14 ?_ | fail)
      all_goals (first | (refine D3 15 ?_; refine D5 ?_; (first | ((with_reducible apply F1 109); exact rfl; exact EN; (exact fun w μc hw hse => pnumb_b t _ ho y.1 y.2 hyo n _ h6 (by omega) (by omega) w μc hw)) | fail); refine D9S ?_))
      all_goals refine DD 16 ?_
      all_goals refine DD 17 ?_
      all_goals (try (refine D7 18 ?_; (repeat' (first | refine KO ?_ | (refine KB ?_ ?_ <;> intro hp)))))
      all_goals (first | refine D1 18 ?_ | (refine DV (k := 18) (b := by first | exact U1 f | exact U4 hmU) (c := ?_)) | (refine D3 18 (DW (b := by first | exact U1 f | exact U4 hmU) (c := ?_))) | refine DD 18 ?_ | fail)
      all_goals (first | (refine D3 19 ?_; refine D5 ?_; (first | ((with_reducible apply F1 109); exact rfl; exact EN; (exact fun w μc hw hse => pnumb_b t _ ho y.1 y.2 hyo n _ h6 (by omega) (by omega) w μc hw)) | fail); refine D9S ?_) | refine D3 19 (D6 ?_))
      all_goals refine DD 20 ?_
      all_goals refine DD 21 ?_
      all_goals refine DD 22 ?_
      all_goals (try (refine D7 23 ?_; (repeat' (first | refine KO ?_ | (refine KB ?_ ?_ <;> intro hp)))))
      all_goals refine DD 23 ?_
      all_goals (first | refine D1 24 ?_ | (refine DV (k := 24) (b := by first | exact U1 f | exact U4 hmU) (c := ?_)) | (refine D3 24 (DW (b := by first | exact U1 f | exact U4 hmU) (c := ?_))) | refine DD 24 ?_ | fail)
      all_goals refine DD 25 ?_
      all_goals (first | refine D1 26 ?_ | (refine DV (k := 26) (b := by first | exact U1 f | exact U4 hmU) (c := ?_)) | (refine D3 26 (DW (b := by first | exact U1 f | exact U4 hmU) (c := ?_))) | refine DD 26 ?_ | fail)
      all_goals (first | (refine D3 27 ?_; refine D5 ?_; (first | ((with_reducible apply F1 109); exact rfl; exact EN; (exact fun w μc hw hse => pnumb_b t _ ho y.1 y.2 hyo n _ h6 (by omega) (by omega) w μc hw)) | fail); refine D9S ?_) | refine D3 27 (D6 ?_))
      all_goals refine DD 28 ?_
      all_goals refine DD 29 ?_
      all_goals refine D8 ?_
      all_goals repeat' (first | refine KK ?_ | refine NB fun b => ?_ | (refine KB ?_ ?_ <;> intro hp) | refine KG ?_ | fail)
      all_goals (refine gq_sel (l' := [(10, .bool false)]) (L' := ckP fb gm gs n (.slice (some adU) n cc) c i) PU PS ?_; exact ck_ret hcnt rfl (rv_tmp rfl) i rfl rfl hi)
    cases h7 : Iq.argsB t.op t.m (t.kids.map T.op)
    · skip
      have hsh : Iq.shapeB rowI (fnsV ps) t f deep = false := by rw [shape_eq, hlo, hfl]; simp [h7]
      rw [hsh, if_neg (by simp)] at hR
      subst hR
      refine gc_drawS 30 ([.inl ⟨fb, 86, 4, [(0, .slice (some adU) n cc)]⟩, .inl ⟨bn, 42, 6, idx 0 (encT t (.slice A0 t.kids.length cK))⟩, .inl ⟨bp, 116, 4, idx 0 [(Value.slice A1 p.slots.length c1), v2, v3, .bool p.inSc]⟩]) (by kernel_rfl) rfl PS ?_
      all_goals (first | refine D1 0 ?_ | (refine DV (k := 0) (b := by first | exact U1 f | exact U4 hmU) (c := ?_)) | (refine D3 0 (DW (b := by first | exact U1 f | exact U4 hmU) (c := ?_))) | refine DD 0 ?_ | fail)
      all_goals refine DD 1 ?_
      all_goals refine DD 2 ?_
      all_goals (first | refine D1 3 ?_ | (refine DV (k := 3) (b := by first | exact U1 f | exact U4 hmU) (c := ?_)) | refine DD 3 ?_ | fail)
      all_goals (first | refine D1 4 ?_ | (refine DV (k := 4) (b := by first | exact U1 f | exact U4 hmU) (c := ?_)) | refine DD 4 ?_ | fail)
      all_goals (first | refine D1 5 ?_ | (refine DV (k := 5) (b := by first | exact U1 f | exact U4 hmU) (c := ?_)) | (refine D3 5 (DW (b := by first | exact U1 f | exact U4 hmU) (c := ?_))) | refine DD 5 ?_ | fail)
      all_goals refine DD 6 ?_
      all_goals (first | refine D1 7 ?_ | (refine DV (k := 7) (b := by first | exact U1 f | exact U4 hmU) (c := ?_)) | refine DD 7 ?_ | fail)
      all_goals (first | refine D1 8 ?_ | (refine DV (k := 8) (b := by first | exact U1 f | exact U4 hmU) (c := ?_)) | (refine D3 8 (DW (b := by first | exact U1 f | exact U4 hmU) (c := ?_))) | refine DD 8 ?_ | fail)
      all_goals refine DD 9 ?_
      all_goals refine DD 10 ?_
      all_goals (first | refine D1 11 ?_ | (refine DV (k := 11) (b := by first | exact U1 f | exact U4 hmU) (c := ?_)) | refine DD 11 ?_ | fail)
      all_goals (first | refine D1 12 ?_ | (refine DV (k := 12) (b := by first | exact U1 f | exact U4 hmU) (c := ?_)) | refine DD 12 ?_ | fail)
      all_goals (first | refine D1 13 ?_ | (refine DV (k := 13) (b := by first | exact U1 f | exact U4 hmU) (c := ?_)) | (refine D3 13 (DW (b := by first | exact U1 f | exact U4 hmU) (c := ?_))) | refine DD 13 ?_ | fail)
      all_goals (first | refine D1 14 ?_ | (refine DV (k := 14) (b := by first | exact U1 f | exact U4 hmU) (c := ?_)) | refine DD 14 ?_ | fail)
      all_goals (first | (refine D3 15 ?_; refine D5 ?_; (first | ((with_reducible apply F1 109); exact rfl; exact EN; (exact fun w μc hw hse => pnumb_b t _ ho y.1 y.2 hyo n _ h6 (by omega) (by omega) w μc hw)) | ((with_reducible apply F1 110); exact rfl; exact EN; (exact fun w μc hw hse => pargs_b t _ _ h7 w μc hw (hk.mono hse.le) (by omega) hm129)) | fail); refine D9S ?_))
      all_goals refine DD 16 ?_
      all_goals refine DD 17 ?_
      all_goals (try (refine D7 18 ?_; (repeat' (first | refine KO ?_ | (refine KB ?_ ?_ <;> intro hp)))))
      all_goals (first | refine D1 18 ?_ | (refine DV (k := 18) (b := by first | exact U1 f | exact U4 hmU) (c := ?_)) | (refine D3 18 (DW (b := by first | exact U1 f | exact U4 hmU) (c := ?_))) | refine DD 18 ?_ | fail)
      all_goals (first | (refine D3 19 ?_; refine D5 ?_; (first | ((with_reducible apply F1 109); exact rfl; exact EN; (exact fun w μc hw hse => pnumb_b t _ ho y.1 y.2 hyo n _ h6 (by omega) (by omega) w μc hw)) | ((with_reducible apply F1 110); exact rfl; exact EN; (exact fun w μc hw hse => pargs_b t _ _ h7 w μc hw (hk.mono hse.le) (by omega) hm129)) | fail); refine D9S ?_) | refine D3 19 (D6 ?_))
      all_goals refine DD 20 ?_
      all_goals refine DD 21 ?_
      all_goals refine DD 22 ?_
      all_goals (try (refine D7 23 ?_; (repeat' (first | refine KO ?_ | (refine KB ?_ ?_ <;> intro hp)))))
      all_goals refine DD 23 ?_
      all_goals (first | refine D1 24 ?_ | (refine DV (k := 24) (b := by first | exact U1 f | exact U4 hmU) (c := ?_)) | (refine D3 24 (DW (b := by first | exact U1 f | exact U4 hmU) (c := ?_))) | refine DD 24 ?_ | fail)
      all_goals refine DD 25 ?_
      all_goals (first | refine D1 26 ?_ | (refine DV (k := 26) (b := by first | exact U1 f | exact U4 hmU) (c := ?_)) | (refine D3 26 (DW (b := by first | exact U1 f | exact U4 hmU) (c := ?_))) | refine DD 26 ?_ | fail)
      all_goals (first | (refine D3 27 ?_; refine D5 ?_; (first | ((with_reducible apply F1 109); exact rfl; exact EN; (exact fun w μc hw hse => pnumb_b t _ ho y.1 y.2 hyo n _ h6 (by omega) (by omega) w μc hw)) | ((with_reducible apply F1 110); exact rfl; exact EN; (exact fun w μc hw hse => pargs_b t _ _ h7 w μc hw (hk.mono hse.le) (by omega) hm129)) | fail); refine D9S ?_) | refine D3 27 (D6 ?_))
      all_goals refine DD 28 ?_
      all_goals refine DD 29 ?_
      all_goals refine D8 ?_
      all_goals repeat' (first | refine KK ?_ | refine NB fun b => ?_ | (refine KB ?_ ?_ <;> intro hp) | refine KG ?_ | fail)
      all_goals (refine gq_sel (l' := [(10, .bool false)]) (L' := ckP fb gm gs n (.slice (some adU) n cc) c i) PU PS ?_; exact ck_ret hcnt rfl (rv_tmp rfl) i rfl rfl hi)
    have hsh : Iq.shapeB rowI (fnsV ps) t f deep = true := by rw [shape_eq, hlo, hfl]; simp [h1, h2, h3, h4, h5, h6, h7]
    rw [hsh, if_pos rfl] at hR
    have hn' : Iq.numbB t.op t.n (Iq.locOf (fnsV ps) f) (fnsV ps).length = true := by rw [hlo, hfl]; exact h6
    have hst := fun (w2 : World) (hw2 : MOk μ w2) (hO2 : Go.Vcg.Own μ (ckP fb gm gs n (.slice (some adU) n cc) c i) w2) => pstands_spec ps (some adU) cc n f t (.slice A0 t.kids.length cK) p _ v2 v3 deep c i fb gm gs w2 μ hw2 hO2 hU hf ho hp0 hi hB hP (by omega) hn'
    have hcb := ckb_stands hfl hB hP h1 hn'
    obtain ⟨S, hS⟩ : ∃ S, S = Iq.standsF (fnsV ps) f t.op t.n t.m p c := ⟨_, rfl⟩
    rw [← hS] at hst hR hcb
    obtain ⟨s1, b1⟩ := S
    clear hS
    dsimp only at hst hR hcb
    obtain ⟨hB1, hcm1⟩ := hcb
    cases b1
    · rw [if_neg (by simp)] at hR
      subst hR
      refine gc_drawS 30 ([.inl ⟨fb, 86, 4, [(0, .slice (some adU) n cc)]⟩, .inl ⟨bn, 42, 6, idx 0 (encT t (.slice A0 t.kids.length cK))⟩, .inl ⟨bp, 116, 4, idx 0 [(Value.slice A1 p.slots.length c1), v2, v3, .bool p.inSc]⟩]) (by kernel_rfl) rfl PS ?_
      all_goals (first | refine D1 0 ?_ | (refine DV (k := 0) (b := by first | exact U1 f | exact U4 hmU) (c := ?_)) | (refine D3 0 (DW (b := by first | exact U1 f | exact U4 hmU) (c := ?_))) | refine DD 0 ?_ | fail)
      all_goals refine DD 1 ?_
      all_goals refine DD 2 ?_
      all_goals (first | refine D1 3 ?_ | (refine DV (k := 3) (b := by first | exact U1 f | exact U4 hmU) (c := ?_)) | refine DD 3 ?_ | fail)
      all_goals (first | refine D1 4 ?_ | (refine DV (k := 4) (b := by first | exact U1 f | exact U4 hmU) (c := ?_)) | refine DD 4 ?_ | fail)
      all_goals (first | refine D1 5 ?_ | (refine DV (k := 5) (b := by first | exact U1 f | exact U4 hmU) (c := ?_)) | (refine D3 5 (DW (b := by first | exact U1 f | exact U4 hmU) (c := ?_))) | refine DD 5 ?_ | fail)
      all_goals refine DD 6 ?_
      all_goals (first | refine D1 7 ?_ | (refine DV (k := 7) (b := by first | exact U1 f | exact U4 hmU) (c := ?_)) | refine DD 7 ?_ | fail)
      all_goals (first | refine D1 8 ?_ | (refine DV (k := 8) (b := by first | exact U1 f | exact U4 hmU) (c := ?_)) | (refine D3 8 (DW (b := by first | exact U1 f | exact U4 hmU) (c := ?_))) | refine DD 8 ?_ | fail)
      all_goals refine DD 9 ?_
      all_goals refine DD 10 ?_
      all_goals (first | refine D1 11 ?_ | (refine DV (k := 11) (b := by first | exact U1 f | exact U4 hmU) (c := ?_)) | refine DD 11 ?_ | fail)
      all_goals (first | refine D1 12 ?_ | (refine DV (k := 12) (b := by first | exact U1 f | exact U4 hmU) (c := ?_)) | refine DD 12 ?_ | fail)
      all_goals (first | refine D1 13 ?_ | (refine DV (k := 13) (b := by first | exact U1 f | exact U4 hmU) (c := ?_)) | (refine D3 13 (DW (b := by first | exact U1 f | exact U4 hmU) (c := ?_))) | refine DD 13 ?_ | fail)
      all_goals (first | refine D1 14 ?_ | (refine DV (k := 14) (b := by first | exact U1 f | exact U4 hmU) (c := ?_)) | refine DD 14 ?_ | fail)
      all_goals (first | (refine D3 15 ?_; refine D5 ?_; (first | ((with_reducible apply F1 109); exact rfl; exact EN; (exact fun w μc hw hse => pnumb_b t _ ho y.1 y.2 hyo n _ h6 (by omega) (by omega) w μc hw)) | ((with_reducible apply F1 110); exact rfl; exact EN; (exact fun w μc hw hse => pargs_b t _ _ h7 w μc hw (hk.mono hse.le) (by omega) hm129)) | (refine CF 111 ?_; (with_reducible apply g_enter_bor (Ls := fun i2 => ckP fb gm gs n (.slice (some adU) n cc) s1 i2) (Post := CkPost s1 false) 4); exact rfl; exact rfl; exact rfl; ((with_reducible apply e_call4); kernel_rfl; exact rfl; exact rfl; exact rfl; exact rfl); exact rfl; (exact hst); (rintro v5 μ1 i1 hle1 ⟨rfl, hi1⟩); (dsimp only [List.cons_append, List.nil_append]))); refine D9S ?_))
      all_goals refine DD 16 ?_
      all_goals refine DD 17 ?_
      all_goals (try (refine D7 18 ?_; (repeat' (first | refine KO ?_ | (refine KB ?_ ?_ <;> intro hp)))))
      all_goals (first | refine D1 18 ?_ | (refine DV (k := 18) (b := by first | exact U1 f | exact U4 hmU) (c := ?_)) | (refine D3 18 (DW (b := by first | exact U1 f | exact U4 hmU) (c := ?_))) | refine DD 18 ?_ | fail)
      all_goals (first | (refine D3 19 ?_; refine D5 ?_; (first | ((with_reducible apply F1 109); exact rfl; exact EN; (exact fun w μc hw hse => pnumb_b t _ ho y.1 y.2 hyo n _ h6 (by omega) (by omega) w μc hw)) | ((with_reducible apply F1 110); exact rfl; exact EN; (exact fun w μc hw hse => pargs_b t _ _ h7 w μc hw (hk.mono hse.le) (by omega) hm129)) | (refine CF 111 ?_; (with_reducible apply g_enter_bor (Ls := fun i2 => ckP fb gm gs n (.slice (some adU) n cc) s1 i2) (Post := CkPost s1 false) 4); exact rfl; exact rfl; exact rfl; ((with_reducible apply e_call4); kernel_rfl; exact rfl; exact rfl; exact rfl; exact rfl); exact rfl; (exact hst); (rintro v5 μ1 i1 hle1 ⟨rfl, hi1⟩); (dsimp only [List.cons_append, List.nil_append]))); refine D9S ?_) | refine D3 19 (D6 ?_))
      all_goals refine DD 20 ?_
      all_goals refine DD 21 ?_
      all_goals refine DD 22 ?_
      all_goals (try (refine D7 23 ?_; (repeat' (first | refine KO ?_ | (refine KB ?_ ?_ <;> intro hp)))))
      all_goals refine DD 23 ?_
      all_goals (first | refine D1 24 ?_ | (refine DV (k := 24) (b := by first | exact U1 f | exact U4 hmU) (c := ?_)) | (refine D3 24 (DW (b := by first | exact U1 f | exact U4 hmU) (c := ?_))) | refine DD 24 ?_ | fail)
      all_goals refine DD 25 ?_
      all_goals (first | refine D1 26 ?_ | (refine DV (k := 26) (b := by first | exact U1 f | exact U4 hmU) (c := ?_)) | (refine D3 26 (DW (b := by first | exact U1 f | exact U4 hmU) (c := ?_))) | refine DD 26 ?_ | fail)
      all_goals (first | (refine D3 27 ?_; refine D5 ?_; (first | ((with_reducible apply F1 109); exact rfl; exact EN; (exact fun w μc hw hse => pnumb_b t _ ho y.1 y.2 hyo n _ h6 (by omega) (by omega) w μc hw)) | ((with_reducible apply F1 110); exact rfl; exact EN; (exact fun w μc hw hse => pargs_b t _ _ h7 w μc hw (hk.mono hse.le) (by omega) hm129)) | (refine CF 111 ?_; (with_reducible apply g_enter_bor (Ls := fun i2 => ckP fb gm gs n (.slice (some adU) n cc) s1 i2) (Post := CkPost s1 false) 4); exact rfl; exact rfl; exact rfl; ((with_reducible apply e_call4); kernel_rfl; exact rfl; exact rfl; exact rfl; exact rfl); exact rfl; (exact hst); (rintro v5 μ1 i1 hle1 ⟨rfl, hi1⟩); (dsimp only [List.cons_append, List.nil_append]))); refine D9S ?_) | refine D3 27 (D6 ?_))
      all_goals refine DD 28 ?_
      all_goals refine DD 29 ?_
      all_goals refine D8 ?_
      all_goals repeat' (first | refine KK ?_ | refine NB fun b => ?_ | (refine KB ?_ ?_ <;> intro hp) | refine KG ?_ | fail)
      all_goals (refine gq_sel (l' := [(10, .bool false)]) (L' := ckP fb gm gs n (.slice (some adU) n cc) s1 i1) PU PS ?_; exact ck_ret hcnt rfl (rv_tmp rfl) i1 rfl rfl hi1)
    rw [if_pos rfl] at hR
    refine gc_drawS 30 ([.inl ⟨fb, 86, 4, [(0, .slice (some adU) n cc)]⟩, .inl ⟨bn, 42, 6, idx 0 (encT t (.slice A0 t.kids.length cK))⟩, .inl ⟨bp, 116, 4, idx 0 [(Value.slice A1 p.slots.length c1), v2, v3, .bool p.inSc]⟩]) (by kernel_rfl) rfl PS ?_
    all_goals (first | refine D1 0 ?_ | (refine DV (k := 0) (b := by first | exact U1 f | exact U4 hmU) (c := ?_)) | (refine D3 0 (DW (b := by first | exact U1 f | exact U4 hmU) (c := ?_))) | refine DD 0 ?_ | fail)
    all_goals refine DD 1 ?_
    all_goals refine DD 2 ?_
    all_goals (first | refine D1 3 ?_ | (refine DV (k := 3) (b := by first | exact U1 f | exact U4 hmU) (c := ?_)) | refine DD 3 ?_ | fail)
    all_goals (first | refine D1 4 ?_ | (refine DV (k := 4) (b := by first | exact U1 f | exact U4 hmU) (c := ?_)) | refine DD 4 ?_ | fail)
    all_goals (first | refine D1 5 ?_ | (refine DV (k := 5) (b := by first | exact U1 f | exact U4 hmU) (c := ?_)) | (refine D3 5 (DW (b := by first | exact U1 f | exact U4 hmU) (c := ?_))) | refine DD 5 ?_ | fail)
    all_goals refine DD 6 ?_
    all_goals (first | refine D1 7 ?_ | (refine DV (k := 7) (b := by first | exact U1 f | exact U4 hmU) (c := ?_)) | refine DD 7 ?_ | fail)
    all_goals (first | refine D1 8 ?_ | (refine DV (k := 8) (b := by first | exact U1 f | exact U4 hmU) (c := ?_)) | (refine D3 8 (DW (b := by first | exact U1 f | exact U4 hmU) (c := ?_))) | refine DD 8 ?_ | fail)
    all_goals refine DD 9 ?_
    all_goals refine DD 10 ?_
    all_goals (first | refine D1 11 ?_ | (refine DV (k := 11) (b := by first | exact U1 f | exact U4 hmU) (c := ?_)) | refine DD 11 ?_ | fail)
    all_goals (first | refine D1 12 ?_ | (refine DV (k := 12) (b := by first | exact U1 f | exact U4 hmU) (c := ?_)) | refine DD 12 ?_ | fail)
    all_goals (first | refine D1 13 ?_ | (refine DV (k := 13) (b := by first | exact U1 f | exact U4 hmU) (c := ?_)) | (refine D3 13 (DW (b := by first | exact U1 f | exact U4 hmU) (c := ?_))) | refine DD 13 ?_ | fail)
    all_goals (first | refine D1 14 ?_ | (refine DV (k := 14) (b := by first | exact U1 f | exact U4 hmU) (c := ?_)) | refine DD 14 ?_ | fail)
    all_goals (first | (refine D3 15 ?_; refine D5 ?_; (first | ((with_reducible apply F1 109); exact rfl; exact EN; (exact fun w μc hw hse => pnumb_b t _ ho y.1 y.2 hyo n _ h6 (by omega) (by omega) w μc hw)) | ((with_reducible apply F1 110); exact rfl; exact EN; (exact fun w μc hw hse => pargs_b t _ _ h7 w μc hw (hk.mono hse.le) (by omega) hm129)) | (refine CF 111 ?_; (with_reducible apply g_enter_bor (Ls := fun i2 => ckP fb gm gs n (.slice (some adU) n cc) s1 i2) (Post := CkPost s1 true) 4); exact rfl; exact rfl; exact rfl; ((with_reducible apply e_call4); kernel_rfl; exact rfl; exact rfl; exact rfl; exact rfl); exact rfl; (exact hst); (rintro v5 μ1 i1 hle1 ⟨rfl, hi1⟩); (dsimp only [List.cons_append, List.nil_append]))); refine D9S ?_))
    all_goals refine DD 16 ?_
    all_goals refine DD 17 ?_
    all_goals (try (refine D7 18 ?_; (repeat' (first | refine KO ?_ | (refine KB ?_ ?_ <;> intro hp)))))
    all_goals (first | refine D1 18 ?_ | (refine DV (k := 18) (b := by first | exact U1 f | exact U4 hmU) (c := ?_)) | (refine D3 18 (DW (b := by first | exact U1 f | exact U4 hmU) (c := ?_))) | refine DD 18 ?_ | fail)
    all_goals (first | (refine D3 19 ?_; refine D5 ?_; (first | ((with_reducible apply F1 109); exact rfl; exact EN; (exact fun w μc hw hse => pnumb_b t _ ho y.1 y.2 hyo n _ h6 (by omega) (by omega) w μc hw)) | ((with_reducible apply F1 110); exact rfl; exact EN; (exact fun w μc hw hse => pargs_b t _ _ h7 w μc hw (hk.mono hse.le) (by omega) hm129)) | (refine CF 111 ?_; (with_reducible apply g_enter_bor (Ls := fun i2 => ckP fb gm gs n (.slice (some adU) n cc) s1 i2) (Post := CkPost s1 true) 4); exact rfl; exact rfl; exact rfl; ((with_reducible apply e_call4); kernel_rfl; exact rfl; exact rfl; exact rfl; exact rfl); exact rfl; (exact hst); (rintro v5 μ1 i1 hle1 ⟨rfl, hi1⟩); (dsimp only [List.cons_append, List.nil_append]))); refine D9S ?_) | refine D3 19 (D6 ?_))
    all_goals refine DD 20 ?_
    all_goals refine DD 21 ?_
    all_goals refine DD 22 ?_
    all_goals (try (refine D7 23 ?_; (repeat' (first | refine KO ?_ | (refine KB ?_ ?_ <;> intro hp)))))
    all_goals refine DD 23 ?_
    all_goals (first | refine D1 24 ?_ | (refine DV (k := 24) (b := by first | exact U1 f | exact U4 hmU) (c := ?_)) | (refine D3 24 (DW (b := by first | exact U1 f | exact U4 hmU) (c := ?_))) | refine DD 24 ?_ | fail)
    all_goals refine DD 25 ?_
    all_goals (first | refine D1 26 ?_ | (refine DV (k := 26) (b := by first | exact U1 f | exact U4 hmU) (c := ?_)) | (refine D3 26 (DW (b := by first | exact U1 f | exact U4 hmU) (c := ?_))) | refine DD 26 ?_ | fail)
    all_goals (first | (refine D3 27 ?_; refine D5 ?_; (first | ((with_reducible apply F1 109); exact rfl; exact EN; (exact fun w μc hw hse => pnumb_b t _ ho y.1 y.2 hyo n _ h6 (by omega) (by omega) w μc hw)) | ((with_reducible apply F1 110); exact rfl; exact EN; (exact fun w μc hw hse => pargs_b t _ _ h7 w μc hw (hk.mono hse.le) (by omega) hm129)) | (refine CF 111 ?_; (with_reducible apply g_enter_bor (Ls := fun i2 => ckP fb gm gs n (.slice (some adU) n cc) s1 i2) (Post := CkPost s1 true) 4); exact rfl; exact rfl; exact rfl; ((with_reducible apply e_call4); kernel_rfl; exact rfl; exact rfl; exact rfl; exact rfl); exact rfl; (exact hst); (rintro v5 μ1 i1 hle1 ⟨rfl, hi1⟩); (dsimp only [List.cons_append, List.nil_append]))); refine D9S ?_) | refine D3 27 (D6 ?_))
    all_goals refine DD 28 ?_
    all_goals refine DD 29 ?_
    all_goals refine D8 ?_
    all_goals repeat' (first | ((with_reducible show GC _ _ (Code.seq (Code.seq (Code.region 6 _ _) _) _) _ _ _ _); (apply gc_stop)) | refine KK ?_ | refine NB fun b => ?_ | (refine KB ?_ ?_ <;> intro hp) | refine KG ?_ | fail)
    all_goals refine gcs (gc_sel (l' := [(0, .pointer (some ⟨fb, 0, none⟩)), (2, .int .i64 (f : Int)), (4, .int .i64 deep), (6, .pointer (some ⟨bn, 0, none⟩)), (8, .pointer (some ⟨bp, 0, none⟩))]) (L' := ckP fb gm gs n (.slice (some adU) n cc) s1 i1 ++ [.inl ⟨bn, 42, 6, idx 0 (encT t (.slice A0 t.kids.length cK))⟩, .inl ⟨bp, 116, 4, idx 0 [(Value.slice A1 p.slots.length c1), v2, v3, .bool p.inSc]⟩]) PU PS ?_)
    all_goals dsimp only [List.cons_append, List.nil_append]
    refine gc_join (ι := Mem × Value × Value) (fun y => MLe μ1 y.1 ∧ PlV y.1 (Iq.inside t.op t.n p) y.2.1 y.2.2 v3) (fun y => y.1) (fun _ => [(0, .pointer (some ⟨fb, 0, none⟩)), (2, .int .i64 (f : Int)), (4, .int .i64 deep), (6, .pointer (some ⟨bn, 0, none⟩)), (8, .pointer (some ⟨bp, 0, none⟩))]) (fun y => ckP fb gm gs n (.slice (some adU) n cc) s1 i1 ++ [.inl ⟨bn, 42, 6, idx 0 (encT t (.slice A0 t.kids.length cK))⟩, .inl ⟨bp, 116, 4, idx 0 [y.2.1, y.2.2, v3, .bool (Iq.inside t.op t.n p).inSc]⟩]) ?_ ?_
    · by_cases hq1 : t.op = 164
      · have hin : Iq.inside t.op t.n p = { p with breaks := p.breaks ++ [t.n] } := by unfold Iq.inside; rw [if_pos hq1]
        rw [hin]
        repeat' (first | refine KK ?_ | refine NB fun b => ?_ | (refine KB ?_ ?_ <;> intro hp) | refine KG ?_ | fail)
        all_goals try (exfalso; omega)
        have e1 := encIn_len p.breaks
        have e2 := encIn_one p.breaks
        refine gc_drawS 9 ([.inl ⟨bn, 42, 6, idx 0 (encT t (.slice A0 t.kids.length cK))⟩]) (by kernel_rfl) rfl PS ?_
        all_goals refine DD 0 ?_
        all_goals refine DD 3 ?_
        all_goals refine DD 4 ?_
        refine ga_all2 1 5 (by kernel_rfl) ?dr5_1 ?dr5_5
        case' dr5_1 =>
          (first | ((with_reducible apply gaop_val); exact rfl; exact rfl; exact rfl; exact rfl; (first | ((with_reducible apply pv_sound); exact rfl) | ((with_reducible apply v_ld); exact rfl; (repeat first | with_reducible exact inb_hd | with_reducible apply inb_tl); exact rfl))))
          refine ga_all2 2 5 (by kernel_rfl) ?dr6_2 ?dr6_5
          case' dr6_2 =>
            (first | (refine D5 ?_; (with_reducible apply F3 112); exact rfl; exact EN; (exact fun w μc hw hse => pclone_spec _ p.breaks w μc hw ((hp0.2.1).mono (hle1.trans hse.le)) (by omega)); intro vr; refine D9S ?_))
            all_goals (first | (refine D3 5 ?_; refine D5 ?_; refine NB fun b => ?_; refine D9S ?_))
            all_goals (first | (refine D3 6 ?_; refine D5 ?_; refine AI (k := fun g cap hcap => ?_); refine D9S ?_))
            all_goals refine DD 7 ?_
            all_goals (first | (refine D3 8 ?_; refine D5 ?_; refine Y0 ?_; refine D9S ?_))
            all_goals refine D8 ?_
          case' dr6_5 =>
            (first | (refine D5 ?_; refine NB fun b => ?_; refine D9S ?_))
            all_goals (first | (refine D3 2 ?_; refine D5 ?_; (with_reducible apply F3 112); exact rfl; exact EN; (exact fun w μc hw hse => pclone_spec _ p.breaks w μc hw ((hp0.2.1).mono (hle1.trans hse.le)) (by omega)); intro vr; refine D9S ?_))
            all_goals (first | (refine D3 6 ?_; refine D5 ?_; refine AI (k := fun g cap hcap => ?_); refine D9S ?_))
            all_goals refine DD 7 ?_
            all_goals (first | (refine D3 8 ?_; refine D5 ?_; refine Y0 ?_; refine D9S ?_))
            all_goals refine D8 ?_
        case' dr5_5 =>
          (first | (refine D5 ?_; refine NB fun b => ?_; refine D9S ?_))
          all_goals (first | (refine D3 1 ?_; (with_reducible apply gaop_val); exact rfl; exact rfl; exact rfl; exact rfl; (first | ((with_reducible apply pv_sound); exact rfl) | ((with_reducible apply v_ld); exact rfl; (repeat first | with_reducible exact inb_hd | with_reducible apply inb_tl); exact rfl))))
          all_goals (first | (refine D3 2 ?_; refine D5 ?_; (with_reducible apply F3 112); exact rfl; exact EN; (exact fun w μc hw hse => pclone_spec _ p.breaks w μc hw ((hp0.2.1).mono (hle1.trans hse.le)) (by omega)); intro vr; refine D9S ?_))
          all_goals (first | (refine D3 6 ?_; refine D5 ?_; refine AI (k := fun g cap hcap => ?_); refine D9S ?_))
          all_goals refine DD 7 ?_
          all_goals (first | (refine D3 8 ?_; refine D5 ?_; refine Y0 ?_; refine D9S ?_))
          all_goals refine D8 ?_
        all_goals repeat' (first | refine KK ?_ | refine NB fun b => ?_ | (refine KB ?_ ?_ <;> intro hp) | refine KG ?_ | fail)
        all_goals first
          | (refine gq_share_0 rfl ?_; intro μ4 hle4 hsh4; have hsh5 := row_id hsh4; exact J1 (μ4, (Value.slice A1 p.slots.length c1), _) ⟨hle4, hp0.1.mono (hle1.trans hle4), IntsV.of_row hsh4 (by simp) (by rw [List.flatMap_append]; rfl), hp0.2.2.mono (hle1.trans hle4)⟩)
          | (refine gq_share_1 rfl ?_; intro μ4 hle4 hsh4; have hsh5 := row_id hsh4; exact J1 (μ4, (Value.slice A1 p.slots.length c1), _) ⟨hle4, hp0.1.mono (hle1.trans hle4), IntsV.of_row hsh4 (by simp) (by rw [List.flatMap_append]; rfl), hp0.2.2.mono (hle1.trans hle4)⟩)
          | (refine gq_share_2 rfl ?_; intro μ4 hle4 hsh4; have hsh5 := row_id hsh4; exact J1 (μ4, (Value.slice A1 p.slots.length c1), _) ⟨hle4, hp0.1.mono (hle1.trans hle4), IntsV.of_row hsh4 (by simp) (by rw [List.flatMap_append]; rfl), hp0.2.2.mono (hle1.trans hle4)⟩)
      by_cases hq2 : t.op = 170
      · have hin : Iq.inside t.op t.n p = { p with slots := t.n :: p.slots, inSc := true } := by unfold Iq.inside; rw [if_neg hq1, if_pos hq2]
        rw [hin]
        have e1 := encIn_len p.slots
        have e2 := encIn_one p.slots
        have hS1m := hS1.mono hle1
        repeat' (first | refine KO ?_ | ((with_reducible show G _ _ _ _ (Oper.mk _ (Op.call (Call.mk (Callee.builtin Builtin.append) _ _)) _ _ _ _ :: _) _ _ _); (with_reducible apply g_row1); exact rfl; (with_reducible apply g_ap); exact rfl; exact rfl; exact rfl; (repeat first | with_reducible exact rowup_hd | with_reducible apply rowup_tl); (iterate 6 exact rfl); ((with_reducible apply src_sh); exact rfl; exact hS1m; simp); omega; (first | assumption | exact e2); omega; omega; intro v; (with_reducible apply g_rowForm 0); exact rfl; omega; (rintro g cap rfl hcap)) | refine KI ?_ | refine NB fun b => ?_ | (refine KB ?_ ?_ <;> intro hp) | refine KG ?_ | fail)
        all_goals try (exfalso; omega)
        all_goals repeat' (first | refine KK ?_ | refine NB fun b => ?_ | (refine KB ?_ ?_ <;> intro hp) | refine KG ?_ | fail)
        all_goals first
          | (refine gq_share_0 rfl ?_; intro μ4 hle4 hsh4; have hsh5 := row_id hsh4; exact J1 (μ4, _, v2) ⟨hle4, IntsV.of_row hsh4 (by simp; omega) rfl, hp0.2.1.mono (hle1.trans hle4), hp0.2.2.mono (hle1.trans hle4)⟩)
          | (refine gq_share_1 rfl ?_; intro μ4 hle4 hsh4; have hsh5 := row_id hsh4; exact J1 (μ4, _, v2) ⟨hle4, IntsV.of_row hsh4 (by simp; omega) rfl, hp0.2.1.mono (hle1.trans hle4), hp0.2.2.mono (hle1.trans hle4)⟩)
          | (refine gq_share_2 rfl ?_; intro μ4 hle4 hsh4; have hsh5 := row_id hsh4; exact J1 (μ4, _, v2) ⟨hle4, IntsV.of_row hsh4 (by simp; omega) rfl, hp0.2.1.mono (hle1.trans hle4), hp0.2.2.mono (hle1.trans hle4)⟩)
      have hin : Iq.inside t.op t.n p = p := by unfold Iq.inside; rw [if_neg hq1, if_neg hq2]
      rw [hin]
      repeat' (first | refine KK ?_ | refine NB fun b => ?_ | (refine KB ?_ ?_ <;> intro hp) | refine KG ?_ | fail)
      all_goals try (exfalso; omega)
      all_goals exact J1 (μ1, (Value.slice A1 p.slots.length c1), v2) ⟨MLe.refl _, hp0.mono hle1⟩
    rintro ⟨μ2, w1, w2⟩ ⟨hle2, hp2⟩
    dsimp only [List.cons_append, List.nil_append] at hle2 hp2 ⊢
    have hle12 := hle1.trans hle2
    have ow1 := hp2.1.one
    have ow2 := hp2.2.1.one
    obtain ⟨p2, hp2e⟩ : ∃ p2, p2 = Iq.inside t.op t.n p := ⟨_, rfl⟩
    have hkid2 := fun (j : Nat) (c' : Iq.CkS) (h : Iq.cnt c.met ≤ Iq.cnt c'.met) => plb_kid (m := t.m) j hP hn' h5 h
    rw [← hp2e] at hp2 hR hkid2 ⊢
    clear hp2e
    repeat' (first | refine KK ?_ | refine NB fun b => ?_ | (refine KB ?_ ?_ <;> intro hp) | refine KG ?_ | fail)
    refine gc_loop (ι := Nat × Iq.CkS × CIx × Mem) (fun q => q.1 ≤ t.kids.length ∧ MLe μ2 q.2.2.2 ∧ CkI q.2.2.2 q.2.1 q.2.2.1 ∧ CkB n q.2.1 ∧ Iq.cnt c.met ≤ Iq.cnt q.2.1.met ∧ Iq.kidsF rowI (fnsV ps) f t.op t.n t.m p2 deep (t.kids.drop q.1) q.1 q.2.1 = R) (fun q => t.kids.length - q.1) (fun q => q.2.2.2) (fun q => [(100, .int .i64 (q.1 : Int)), (99, .int .i64 (t.kids.length : Int)), (98, .slice A0 t.kids.length cK), (0, .pointer (some ⟨fb, 0, none⟩)), (2, .int .i64 (f : Int)), (4, .int .i64 deep), (6, .pointer (some ⟨bn, 0, none⟩)), (8, .pointer (some ⟨bp, 0, none⟩))]) (fun q => ckP fb gm gs n (.slice (some adU) n cc) q.2.1 q.2.2.1 ++ [.inl ⟨bn, 42, 6, idx 0 (encT t (.slice A0 t.kids.length cK))⟩, .inl ⟨bp, 116, 4, idx 0 [w1, w2, v3, .bool p2.inSc]⟩]) (0, s1, i1, μ2) ⟨by omega, MLe.refl _, hi1.mono hle2, hB1, hcm1, hR⟩ (fun a w hs => hs.sel PU PS) ?_
    rintro ⟨k, ck, ik, μk⟩ ⟨hk1, hlek, hik, hBk, hcmk, hRk⟩
    dsimp only [List.cons_append, List.nil_append] at hk1 hlek hik hBk hcmk hRk ⊢
    by_cases hlt : k < t.kids.length
    · have hkk : t.kids[k]? = some t.kids[k] := List.getElem?_eq_getElem hlt
      have hksz := T.size_kid hkk
      have hkall := hall.kid (List.mem_of_getElem? hkk)
      generalize t.kids[k] = kd at hkk hksz hkall
      obtain ⟨ad, x, rfl, hm0, hox, hkx⟩ := hget k kd hkk
      rw [dropc hkk, kidsF_cons] at hRk
      have hlek2 := hle12.trans hlek
      have hm := hm0.mono hlek2
      have hpk := hp2.mono hlek
      repeat' (first | ((with_reducible show GC _ _ (Code.seq (Code.seq (Code.region 16 _ _) _) _) _ _ _ _); (apply gc_stop)) | refine KO ?_ | (refine KV (b := by first | exact U1 k | exact U4 hm) (c := ?_)) | refine KI ?_ | refine NB fun b => ?_ | (refine KB ?_ ?_ <;> intro hp) | refine KG ?_ | fail)
      all_goals try (exfalso; omega)
      rename_i bk
      obtain ⟨bq, hbq⟩ : ∃ x, x = b := ⟨_, rfl⟩
      rw [← hbq]
      clear hbq
      refine gcs (gc_sel (l' := [(100, .int .i64 (k : Int)), (99, .int .i64 (t.kids.length : Int)), (98, .slice (some ad) t.kids.length cK), (13, .int .i64 (k : Int)), (14, .pointer (some ⟨bk, 0, none⟩)), (15, .pointer (some ⟨bq, 0, none⟩)), (0, .pointer (some ⟨fb, 0, none⟩)), (2, .int .i64 (f : Int)), (4, .int .i64 deep), (6, .pointer (some ⟨bn, 0, none⟩)), (8, .pointer (some ⟨bp, 0, none⟩))]) (L' := ckP fb gm gs n (.slice (some adU) n cc) ck ik ++ [.inl ⟨bn, 42, 6, idx 0 (encT t (.slice (some ad) t.kids.length cK))⟩, .inl ⟨bp, 116, 4, idx 0 [w1, w2, v3, .bool p2.inSc]⟩, .inl ⟨bk, 42, 6, idx 0 (encT kd x)⟩, .inl ⟨bq, 116, 4, idx 0 [w1, w2, v3, .bool p2.inSc]⟩]) PU PS ?_)
      dsimp only [List.cons_append, List.nil_append]
      refine gc_join (ι := Mem × Value × Value) (fun y => MLe μk y.1 ∧ PlV y.1 (Iq.atKid t.op t.n t.m p2 k) w1 y.2.1 y.2.2) (fun y => y.1) (fun _ => [(100, .int .i64 (k : Int)), (99, .int .i64 (t.kids.length : Int)), (98, .slice (some ad) t.kids.length cK), (13, .int .i64 (k : Int)), (14, .pointer (some ⟨bk, 0, none⟩)), (15, .pointer (some ⟨bq, 0, none⟩)), (0, .pointer (some ⟨fb, 0, none⟩)), (2, .int .i64 (f : Int)), (4, .int .i64 deep), (6, .pointer (some ⟨bn, 0, none⟩)), (8, .pointer (some ⟨bp, 0, none⟩))]) (fun y => ckP fb gm gs n (.slice (some adU) n cc) ck ik ++ [.inl ⟨bn, 42, 6, idx 0 (encT t (.slice (some ad) t.kids.length cK))⟩, .inl ⟨bp, 116, 4, idx 0 [w1, w2, v3, .bool p2.inSc]⟩, .inl ⟨bk, 42, 6, idx 0 (encT kd x)⟩, .inl ⟨bq, 116, 4, idx 0 [w1, y.2.1, y.2.2, .bool p2.inSc]⟩]) ?_ ?_
      · by_cases hq : t.op = 163 ∧ k = 1
        · have hak : Iq.atKid t.op t.n t.m p2 k = { p2 with breaks := p2.breaks ++ [t.n], agains := p2.agains ++ [t.m] } := by unfold Iq.atKid; rw [if_pos hq]
          rw [hak]
          obtain ⟨hq1, hq2⟩ := hq
          have hq3 : (k : Int) = 1 := by omega
          have e1 := encIn_len p2.breaks
          have e2 := encIn_one p2.breaks
          have e3 := encIn_len p2.agains
          have e4 := encIn_one p2.agains
          have hb1 := (hkid2 0 c (Nat.le_refl _)).b1
          have hb2 := (hkid2 0 c (Nat.le_refl _)).b2
          have hak0 : Iq.atKid t.op t.n t.m p2 0 = p2 := by unfold Iq.atKid; rw [if_neg (by omega)]
          rw [hak0] at hb1 hb2
          repeat' (first | ((with_reducible show GC _ _ (Code.seq (Code.region 17 _ _) _) _ _ _ _); (apply gc_stop)) | refine KK ?_ | refine NB fun b => ?_ | (refine KB ?_ ?_ <;> intro hp) | refine KG ?_ | fail)
          all_goals try (exfalso; omega)
          refine gcs (gc_sel (l' := [(100, .int .i64 (k : Int)), (99, .int .i64 (t.kids.length : Int)), (98, .slice (some ad) t.kids.length cK), (13, .int .i64 (k : Int)), (14, .pointer (some ⟨bk, 0, none⟩)), (15, .pointer (some ⟨bq, 0, none⟩)), (0, .pointer (some ⟨fb, 0, none⟩)), (2, .int .i64 (f : Int)), (4, .int .i64 deep), (6, .pointer (some ⟨bn, 0, none⟩)), (8, .pointer (some ⟨bp, 0, none⟩))]) (L' := ckP fb gm gs n (.slice (some adU) n cc) ck ik ++ [.inl ⟨bn, 42, 6, idx 0 (encT t (.slice (some ad) t.kids.length cK))⟩, .inl ⟨bp, 116, 4, idx 0 [w1, w2, v3, .bool p2.inSc]⟩, .inl ⟨bk, 42, 6, idx 0 (encT kd x)⟩, .inl ⟨bq, 116, 4, idx 0 [w1, w2, v3, .bool p2.inSc]⟩]) PU PS ?_)
          dsimp only [List.cons_append, List.nil_append]
          refine gc_join (ι := Mem × Value) (fun y => MLe μk y.1 ∧ IntsV y.1 y.2 (p2.breaks ++ [t.n])) (fun y => y.1) (fun _ => [(100, .int .i64 (k : Int)), (99, .int .i64 (t.kids.length : Int)), (98, .slice (some ad) t.kids.length cK), (13, .int .i64 (k : Int)), (14, .pointer (some ⟨bk, 0, none⟩)), (15, .pointer (some ⟨bq, 0, none⟩)), (0, .pointer (some ⟨fb, 0, none⟩)), (2, .int .i64 (f : Int)), (4, .int .i64 deep), (6, .pointer (some ⟨bn, 0, none⟩)), (8, .pointer (some ⟨bp, 0, none⟩))]) (fun y => ckP fb gm gs n (.slice (some adU) n cc) ck ik ++ [.inl ⟨bn, 42, 6, idx 0 (encT t (.slice (some ad) t.kids.length cK))⟩, .inl ⟨bp, 116, 4, idx 0 [w1, w2, v3, .bool p2.inSc]⟩, .inl ⟨bk, 42, 6, idx 0 (encT kd x)⟩, .inl ⟨bq, 116, 4, idx 0 [w1, y.2, v3, .bool p2.inSc]⟩]) ?_ ?_
          · refine gc_drawS 9 ([.inl ⟨bn, 42, 6, idx 0 (encT t (.slice (some ad) t.kids.length cK))⟩, .inl ⟨bp, 116, 4, idx 0 [w1, w2, v3, .bool p2.inSc]⟩]) (by kernel_rfl) rfl PS ?_
            all_goals refine DD 0 ?_
            all_goals refine DD 1 ?_
            all_goals refine DD 3 ?_
            all_goals refine DD 4 ?_
            refine ga_all2 2 5 (by kernel_rfl) ?dr7_2 ?dr7_5
            case' dr7_2 =>
              (first | (refine D5 ?_; (with_reducible apply F3 112); exact rfl; exact EN; (exact fun w μc hw hse => pclone_spec _ p2.breaks w μc hw ((hpk.2.1).mono hse.le) (by omega)); intro vr; refine D9S ?_))
              all_goals (first | (refine D3 5 ?_; refine D5 ?_; refine NB fun b => ?_; refine D9S ?_))
              all_goals (first | (refine D3 6 ?_; refine D5 ?_; refine AI (k := fun g cap hcap => ?_); refine D9S ?_))
              all_goals refine DD 7 ?_
              all_goals (first | (refine D3 8 ?_; refine D5 ?_; refine Y0 ?_; refine D9S ?_))
              all_goals refine D8 ?_
            case' dr7_5 =>
              (first | (refine D5 ?_; refine NB fun b => ?_; refine D9S ?_))
              all_goals (first | (refine D3 2 ?_; refine D5 ?_; (with_reducible apply F3 112); exact rfl; exact EN; (exact fun w μc hw hse => pclone_spec _ p2.breaks w μc hw ((hpk.2.1).mono hse.le) (by omega)); intro vr; refine D9S ?_))
              all_goals (first | (refine D3 6 ?_; refine D5 ?_; refine AI (k := fun g cap hcap => ?_); refine D9S ?_))
              all_goals refine DD 7 ?_
              all_goals (first | (refine D3 8 ?_; refine D5 ?_; refine Y0 ?_; refine D9S ?_))
              all_goals refine D8 ?_
            all_goals repeat' (first | refine KK ?_ | refine NB fun b => ?_ | (refine KB ?_ ?_ <;> intro hp) | refine KG ?_ | fail)
            all_goals first
              | (refine gq_share_0 rfl ?_; intro μ4 hle4 hsh4; have hsh5 := row_id hsh4; exact J1 (μ4, _) ⟨hle4, IntsV.of_row hsh4 (by simp) (by rw [List.flatMap_append]; rfl)⟩)
              | (refine gq_share_1 rfl ?_; intro μ4 hle4 hsh4; have hsh5 := row_id hsh4; exact J1 (μ4, _) ⟨hle4, IntsV.of_row hsh4 (by simp) (by rw [List.flatMap_append]; rfl)⟩)
              | (refine gq_share_2 rfl ?_; intro μ4 hle4 hsh4; have hsh5 := row_id hsh4; exact J1 (μ4, _) ⟨hle4, IntsV.of_row hsh4 (by simp) (by rw [List.flatMap_append]; rfl)⟩)
          rintro ⟨μ5, w5⟩ ⟨hle5, hv5⟩
          dsimp only [List.cons_append, List.nil_append] at hle5 hv5 ⊢
          have ow5 := hv5.one
          refine gc_drawS 9 ([.inl ⟨bn, 42, 6, idx 0 (encT t (.slice (some ad) t.kids.length cK))⟩, .inl ⟨bp, 116, 4, idx 0 [w1, w2, v3, .bool p2.inSc]⟩]) (by kernel_rfl) rfl PS ?_
          all_goals refine DD 0 ?_
          all_goals refine DD 1 ?_
          all_goals refine DD 3 ?_
          all_goals refine DD 4 ?_
          refine ga_all2 2 5 (by kernel_rfl) ?dr8_2 ?dr8_5
          case' dr8_2 =>
            (first | (refine D5 ?_; (with_reducible apply F3 112); exact rfl; exact EN; (exact fun w μc hw hse => pclone_spec _ p2.agains w μc hw (((hpk.2.2.mono hle5)).mono hse.le) (by omega)); intro vr; refine D9S ?_))
            all_goals (first | (refine D3 5 ?_; refine D5 ?_; refine NB fun b => ?_; refine D9S ?_))
            all_goals (first | (refine D3 6 ?_; refine D5 ?_; refine AI (k := fun g cap hcap => ?_); refine D9S ?_))
            all_goals refine DD 7 ?_
            all_goals (first | (refine D3 8 ?_; refine D5 ?_; refine Y0 ?_; refine D9S ?_))
            all_goals refine D8 ?_
          case' dr8_5 =>
            (first | (refine D5 ?_; refine NB fun b => ?_; refine D9S ?_))
            all_goals (first | (refine D3 2 ?_; refine D5 ?_; (with_reducible apply F3 112); exact rfl; exact EN; (exact fun w μc hw hse => pclone_spec _ p2.agains w μc hw (((hpk.2.2.mono hle5)).mono hse.le) (by omega)); intro vr; refine D9S ?_))
            all_goals (first | (refine D3 6 ?_; refine D5 ?_; refine AI (k := fun g cap hcap => ?_); refine D9S ?_))
            all_goals refine DD 7 ?_
            all_goals (first | (refine D3 8 ?_; refine D5 ?_; refine Y0 ?_; refine D9S ?_))
            all_goals refine D8 ?_
          all_goals repeat' (first | refine KK ?_ | refine NB fun b => ?_ | (refine KB ?_ ?_ <;> intro hp) | refine KG ?_ | fail)
          all_goals first
            | (refine gq_share_0 rfl ?_; intro μ4 hle4 hsh4; have hsh5 := row_id hsh4; exact J1 (μ4, w5, _) ⟨hle5.trans hle4, hpk.1.mono (hle5.trans hle4), hv5.mono hle4, IntsV.of_row hsh4 (by simp) (by rw [List.flatMap_append]; rfl)⟩)
            | (refine gq_share_1 rfl ?_; intro μ4 hle4 hsh4; have hsh5 := row_id hsh4; exact J1 (μ4, w5, _) ⟨hle5.trans hle4, hpk.1.mono (hle5.trans hle4), hv5.mono hle4, IntsV.of_row hsh4 (by simp) (by rw [List.flatMap_append]; rfl)⟩)
            | (refine gq_share_2 rfl ?_; intro μ4 hle4 hsh4; have hsh5 := row_id hsh4; exact J1 (μ4, w5, _) ⟨hle5.trans hle4, hpk.1.mono (hle5.trans hle4), hv5.mono hle4, IntsV.of_row hsh4 (by simp) (by rw [List.flatMap_append]; rfl)⟩)
        · have hak : Iq.atKid t.op t.n t.m p2 k = p2 := by unfold Iq.atKid; rw [if_neg hq]
          rw [hak]
          have hq3 : t.op = 163 → ¬ (k : Int) = 1 := fun h h2 => hq ⟨h, by omega⟩
          by_cases hq4 : t.op = 163
          all_goals try have hq5 := hq3 hq4
          all_goals clear hq3
          all_goals repeat' (first | refine KK ?_ | refine NB fun b => ?_ | (refine KB ?_ ?_ <;> intro hp) | refine KG ?_ | fail)
          all_goals try (exfalso; omega)
          all_goals exact J1 (μk, w2, v3) ⟨MLe.refl _, hpk⟩
      rintro ⟨μ6, w3, w4⟩ ⟨hle6, hp6⟩
      dsimp only [List.cons_append, List.nil_append] at hle6 hp6 ⊢
      have ow3 := hp6.2.1.one
      have ow4 := hp6.2.2.one
      have hmn := fun (w2 : World) (hw2 : MOk μ6 w2) (hO2 : Go.Vcg.Own μ6 (ckP fb gm gs n (.slice (some adU) n cc) ck ik) w2) => ih ps (some adU) cc n fb gm gs kd x f (Iq.atKid t.op t.n t.m p2 k) w1 w3 w4 (deep + 1) ck ik w2 μ6 hw2 hO2 (hmq.mono (hlek2.trans hle6)) (hU.mono (hlek2.trans hle6)) hf (hkx.mono (hlek2.trans hle6)) hkall (by omega) (by omega) hp6 (hik.mono hle6) hBk (hkid2 k ck hcmk) (by omega) (by omega)
      rw [atKid_sc] at hmn
      have hckb := fun (c' : Iq.CkS) (b : Bool) => ckb_node (row := rowI) (fs := fnsV ps) (t := kd) (f := f) (p := Iq.atKid t.op t.n t.m p2 k) (deep := deep + 1) (c' := c') (b := b) hfl hn1 hloc hBk (hkid2 k ck hcmk) (szT_of kd hkall (by omega))
      generalize Iq.nodeF rowI (fnsV ps) f kd (Iq.atKid t.op t.n t.m p2 k) (deep + 1) ck = S2 at hmn hRk hckb
      obtain ⟨s2, b2⟩ := S2
      dsimp only at hmn hRk
      cases b2
      · rw [if_neg (by simp)] at hRk
        subst hRk
        repeat' (first | refine KO ?_ | (refine CF 76 ?_; (with_reducible apply g_enter_bor (Ls := fun i2 => ckP fb gm gs n (.slice (some adU) n cc) s2 i2) (Post := CkPost s2 false) 4); exact rfl; exact rfl; exact rfl; ((with_reducible apply e_call5); kernel_rfl; exact rfl; exact rfl; exact rfl; exact rfl; exact rfl); exact rfl; (exact hmn); (rintro v6 μ7 i2 hle7 ⟨rfl, hi2⟩); (dsimp only [List.cons_append, List.nil_append])) | refine KI ?_ | refine NB fun b => ?_ | (refine KB ?_ ?_ <;> intro hp) | refine KG ?_ | fail)
        all_goals (refine gq_sel (l' := [(10, .bool false)]) (L' := ckP fb gm gs n (.slice (some adU) n cc) s2 i2) PU PS ?_; exact ck_ret hcnt rfl (rv_tmp rfl) i2 rfl rfl hi2)
      · rw [if_pos rfl] at hRk
        obtain ⟨hB2, hcm2⟩ := hckb s2 true rfl rfl
        repeat' (first | refine KO ?_ | (refine CF 76 ?_; (with_reducible apply g_enter_bor (Ls := fun i2 => ckP fb gm gs n (.slice (some adU) n cc) s2 i2) (Post := CkPost s2 true) 4); exact rfl; exact rfl; exact rfl; ((with_reducible apply e_call5); kernel_rfl; exact rfl; exact rfl; exact rfl; exact rfl; exact rfl); exact rfl; (exact hmn); (rintro v6 μ7 i2 hle7 ⟨rfl, hi2⟩); (dsimp only [List.cons_append, List.nil_append])) | refine KI ?_ | refine NB fun b => ?_ | (refine KB ?_ ?_ <;> intro hp) | refine KG ?_ | fail)
        all_goals exact J2 (k + 1, s2, i2, μ7) ⟨by dsimp only; omega, hlek.trans (hle6.trans hle7), hi2, hB2, Nat.le_trans hcmk hcm2, hRk⟩ (by dsimp only; omega)
    · rw [List.drop_of_length_le (by omega), kidsF_nil] at hRk
      subst hRk
      repeat' (first | refine KK ?_ | refine NB fun b => ?_ | (refine KB ?_ ?_ <;> intro hp) | refine KG ?_ | fail)
      all_goals first | (exfalso; omega) | (refine gq_sel (l' := [(10, .bool true)]) (L' := ckP fb gm gs n (.slice (some adU) n cc) ck ik) PU PS ?_; exact ck_ret hcnt rfl (rv_tmp rfl) ik rfl rfl hik)
end Go.Proofs.YtoclmkdfcafhfaaGreatDoor
