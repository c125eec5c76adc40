/- The law LabelsJoins walked. No statement of the seat is proved here. -/
import Derived.Test.YtnllooebophcpaaDoorMn
import Derived.Test.YtnllooebophcpaaDoorSt
set_option maxRecDepth 20000
set_option maxHeartbeats 2000000
namespace Go.Proofs.YtnllooebophcpaaDoor
open Go.RowKit Go.Vcg
attribute [local irreducible] ofF nodeF rtB G GC GQ GA GAop GI GCI GD Calls IntKind.wrap Int.decLt Int.decLe
theorem joins_walk (ta tb : T) (va vb : Value) (w : World) (μ : Mem) (hμ : MOk μ w) (hT : TabM μ) (hTA : TabA μ) (hta : TV μ ta va) (htb : TV μ tb vb) (hra : Ri ta) (hrb : Ri tb) :
    Calls Tryd.prog 5 #[va, vb] w fun e w' => e = .returned (.bool true) ∧ Below w.heap.size w w' := by
  obtain ⟨ua, rfl, hka⟩ := hta
  obtain ⟨ub, rfl, hkb⟩ := htb
  refine call_intro (args := [.agg (encT ta ua).toArray, .agg (encT tb ub).toArray]) Tryd.func5 rfl Tryd.ntmps5 (by simp) hμ ?_
  have hoa := hka.one
  have hob := hkb.one
  have hfa := fun (w : World) (μc : Mem) (hw : MOk μc w) (hle : MLe μ μc) => few_specS ta _ w μc hw ⟨ua, rfl, hka.mono hle⟩
  have hfb := fun (w : World) (μc : Mem) (hw : MOk μc w) (hle : MLe μ μc) => few_specS tb _ w μc hw ⟨ub, rfl, hkb.mono hle⟩
  repeat' (first | ((with_reducible show GC _ _ (Code.seq (Code.region 3 _ _) _) _ _ _ _); (apply gc_stop)) | refine KO ?_ | ((with_reducible apply F1 6); exact rfl; exact EN; (exact fun w μc hw hse => awake_spec (hT.ok hse.le hw))) | refine KI ?_ | refine NB fun b => ?_ | ((refine KB ?_ ?_ <;> intro hp)) | refine KG ?_ | fail)
  rename_i bA
  obtain ⟨bB, hbB⟩ : ∃ x, x = b := ⟨_, rfl⟩
  rw [← hbB]
  clear hbB
  refine gcs (gc_join (ι := Mem × T × Value × T × Value) (fun x => MLe μ x.1 ∧ (KR x.1 x.2.1.kids x.2.2.1 ∧ x.2.1.size ≤ 1501 ∧ Sh x.2.1) ∧ KR x.1 x.2.2.2.1.kids x.2.2.2.2 ∧ x.2.2.2.1.size ≤ 1501 ∧ Sh x.2.2.2.1) (fun x => x.1) (fun _ => [(2, .pointer (some ⟨bA, 0, none⟩)), (3, .pointer (some ⟨bB, 0, none⟩))]) (fun x => [.inl ⟨bA, 24, 6, idx 0 (encT x.2.1 x.2.2.1)⟩, .inl ⟨bB, 24, 6, idx 0 (encT x.2.2.2.1 x.2.2.2.2)⟩]) ?_ ?_)
  · refine gc_draw 6 _ (by kernel_rfl) rfl (List.Sublist.cons _ (List.Sublist.cons _ (List.nil_sublist _))) ?_
    refine ga_all2 0 2 (by kernel_rfl) ?dr12_0 ?dr12_2
    case' dr12_0 =>
      (first | ((with_reducible apply gaop_val); exact rfl; exact rfl; exact rfl; exact rfl; (first | ((with_reducible apply pv_sound); exact rfl) | ((with_reducible apply v_ld); exact rfl; (repeat first | with_reducible exact inb_hd | with_reducible apply inb_tl); exact rfl))))
      refine ga_all2 1 2 (by kernel_rfl) ?dr13_1 ?dr13_2
      case' dr13_1 =>
        (first | (refine D5 ?_; (with_reducible apply F2 7); exact rfl; exact EN; (first | ((refine fun w hw => hfa w _ hw ?_; first | exact MLe.refl _ | assumption); (rintro va2 μa hlea ⟨a2, ⟨ua2, rfl, hka2⟩, hsa2, hsha2⟩); (have hoa2 := hka2.one)) | ((refine fun w hw => hfb w _ hw ?_; first | exact MLe.refl _ | assumption); (rintro vb2 μb hleb ⟨b2, ⟨ub2, rfl, hkb2⟩, hsb2, hshb2⟩); (have hob2 := hkb2.one))); refine D9 ?_))
        all_goals (first | (refine D3 2 ?_; (with_reducible apply gaop_val); exact rfl; exact rfl; exact rfl; exact rfl; (first | ((with_reducible apply pv_sound); exact rfl) | ((with_reducible apply v_ld); exact rfl; (repeat first | with_reducible exact inb_hd | with_reducible apply inb_tl); exact rfl))))
        all_goals (first | (refine D3 3 ?_; refine D5 ?_; (with_reducible apply F2 7); exact rfl; exact EN; (first | ((refine fun w hw => hfa w _ hw ?_; first | exact MLe.refl _ | assumption); (rintro va2 μa hlea ⟨a2, ⟨ua2, rfl, hka2⟩, hsa2, hsha2⟩); (have hoa2 := hka2.one)) | ((refine fun w hw => hfb w _ hw ?_; first | exact MLe.refl _ | assumption); (rintro vb2 μb hleb ⟨b2, ⟨ub2, rfl, hkb2⟩, hsb2, hshb2⟩); (have hob2 := hkb2.one))); refine D9 ?_))
        all_goals (first | (refine D3 4 ?_; refine D5 ?_; refine Y0 ?_; refine D9 ?_))
        all_goals (first | (refine D3 5 ?_; refine D5 ?_; refine Y0 ?_; refine D9 ?_))
        all_goals refine D8 ?_
      case' dr13_2 =>
        (first | ((with_reducible apply gaop_val); exact rfl; exact rfl; exact rfl; exact rfl; (first | ((with_reducible apply pv_sound); exact rfl) | ((with_reducible apply v_ld); exact rfl; (repeat first | with_reducible exact inb_hd | with_reducible apply inb_tl); exact rfl))))
        all_goals (first | (refine D3 1 ?_; refine D5 ?_; (with_reducible apply F2 7); exact rfl; exact EN; (first | ((refine fun w hw => hfa w _ hw ?_; first | exact MLe.refl _ | assumption); (rintro va2 μa hlea ⟨a2, ⟨ua2, rfl, hka2⟩, hsa2, hsha2⟩); (have hoa2 := hka2.one)) | ((refine fun w hw => hfb w _ hw ?_; first | exact MLe.refl _ | assumption); (rintro vb2 μb hleb ⟨b2, ⟨ub2, rfl, hkb2⟩, hsb2, hshb2⟩); (have hob2 := hkb2.one))); refine D9 ?_))
        all_goals (first | (refine D3 3 ?_; refine D5 ?_; (with_reducible apply F2 7); exact rfl; exact EN; (first | ((refine fun w hw => hfa w _ hw ?_; first | exact MLe.refl _ | assumption); (rintro va2 μa hlea ⟨a2, ⟨ua2, rfl, hka2⟩, hsa2, hsha2⟩); (have hoa2 := hka2.one)) | ((refine fun w hw => hfb w _ hw ?_; first | exact MLe.refl _ | assumption); (rintro vb2 μb hleb ⟨b2, ⟨ub2, rfl, hkb2⟩, hsb2, hshb2⟩); (have hob2 := hkb2.one))); refine D9 ?_))
        all_goals (first | (refine D3 4 ?_; refine D5 ?_; refine Y0 ?_; refine D9 ?_))
        all_goals (first | (refine D3 5 ?_; refine D5 ?_; refine Y0 ?_; refine D9 ?_))
        all_goals refine D8 ?_
    case' dr12_2 =>
      (first | ((with_reducible apply gaop_val); exact rfl; exact rfl; exact rfl; exact rfl; (first | ((with_reducible apply pv_sound); exact rfl) | ((with_reducible apply v_ld); exact rfl; (repeat first | with_reducible exact inb_hd | with_reducible apply inb_tl); exact rfl))))
      all_goals (first | (refine D3 0 ?_; (with_reducible apply gaop_val); exact rfl; exact rfl; exact rfl; exact rfl; (first | ((with_reducible apply pv_sound); exact rfl) | ((with_reducible apply v_ld); exact rfl; (repeat first | with_reducible exact inb_hd | with_reducible apply inb_tl); exact rfl))))
      all_goals (first | (refine D3 1 ?_; refine D5 ?_; (with_reducible apply F2 7); exact rfl; exact EN; (first | ((refine fun w hw => hfa w _ hw ?_; first | exact MLe.refl _ | assumption); (rintro va2 μa hlea ⟨a2, ⟨ua2, rfl, hka2⟩, hsa2, hsha2⟩); (have hoa2 := hka2.one)) | ((refine fun w hw => hfb w _ hw ?_; first | exact MLe.refl _ | assumption); (rintro vb2 μb hleb ⟨b2, ⟨ub2, rfl, hkb2⟩, hsb2, hshb2⟩); (have hob2 := hkb2.one))); refine D9 ?_))
      all_goals (first | (refine D3 3 ?_; refine D5 ?_; (with_reducible apply F2 7); exact rfl; exact EN; (first | ((refine fun w hw => hfa w _ hw ?_; first | exact MLe.refl _ | assumption); (rintro va2 μa hlea ⟨a2, ⟨ua2, rfl, hka2⟩, hsa2, hsha2⟩); (have hoa2 := hka2.one)) | ((refine fun w hw => hfb w _ hw ?_; first | exact MLe.refl _ | assumption); (rintro vb2 μb hleb ⟨b2, ⟨ub2, rfl, hkb2⟩, hsb2, hshb2⟩); (have hob2 := hkb2.one))); refine D9 ?_))
      all_goals (first | (refine D3 4 ?_; refine D5 ?_; refine Y0 ?_; refine D9 ?_))
      all_goals (first | (refine D3 5 ?_; refine D5 ?_; refine Y0 ?_; refine D9 ?_))
      all_goals refine D8 ?_
    all_goals exact J1 (μb, a2, ua2, b2, ub2) ⟨hlea.trans hleb, ⟨hka2.mono hleb, by dsimp only; omega, hsha2 hra⟩, hkb2, by dsimp only; omega, hshb2 hrb⟩
  rintro ⟨μ1, a2, ua2, b2, ub2⟩ ⟨hle1, ⟨hka2, hsa, hsha⟩, hkb2, hsb, hshb⟩
  dsimp only at hle1 hka2 hsa hsha hkb2 hsb hshb ⊢
  have hoa2 := hka2.one
  have hob2 := hkb2.one
  have hRa := fun (w : World) (μc : Mem) (hw : MOk μc w) (hle : MLe μ1 μc) => rRight_spec a2 ua2 w μc hw (hka2.mono hle) (by omega) hsha
  have hRb := fun (w : World) (μc : Mem) (hw : MOk μc w) (hle : MLe μ1 μc) => rRight_spec b2 ub2 w μc hw (hkb2.mono hle) (by omega) hshb
  obtain ⟨rA, hrA⟩ : ∃ r, rtB a2 1 false = r := ⟨_, rfl⟩
  obtain ⟨rB, hrB⟩ : ∃ r, rtB b2 1 false = r := ⟨_, rfl⟩
  rw [hrA] at hRa
  rw [hrB] at hRb
  by_cases hall : (a2.op = 1 ∧ b2.op = 1) ∧ rA = true ∧ rB = true
  rotate_left
  · cases rA <;> cases rB
    all_goals repeat' (first | ((with_reducible show GC _ _ (Code.seq (Code.region 6 _ _) _) _ _ _ _); (apply gc_stop)) | refine KO ?_ | ((with_reducible apply F1 9); exact rfl; exact EN; first | (exact fun w μc hw hse => hRa w μc hw hse.le) | (exact fun w μc hw hse => hRb w μc hw hse.le)) | refine KI ?_ | refine NB fun b => ?_ | ((refine KB ?_ ?_ <;> intro hp)) | refine KG ?_ | fail)
    all_goals first | exact ret_s rfl rfl rfl | (exfalso; exact hall ⟨⟨by omega, by omega⟩, rfl, rfl⟩)
  obtain ⟨⟨o1, o2⟩, rfl, rfl⟩ := hall
  have hjr := join_right hrA hrB o1 o2
  have hjl := lof_join hrA hrB o1 o2
  obtain ⟨Aa, ca, psa, rfl, hca, hpa, hSa, hkpa⟩ := hka2.sl
  obtain ⟨Ab, cb, psb, rfl, hcb, hpb, hSb, hkpb⟩ := hkb2.sl
  have hla : psa.length = a2.kids.length := by rw [← hpa]; simp
  have hlb : psb.length = b2.kids.length := by rw [← hpb]; simp
  have hna := kidsLe a2
  have hnb := kidsLe b2
  have hOa := fun (w : World) (μc : Mem) (hw : MOk μc w) (hle : MLe μ1 μc) => lof_spec a2 _ w μc hw (hka2.mono hle) (by omega) hsha (hTA.mono (hle1.trans hle))
  have hOb := fun (w : World) (μc : Mem) (hw : MOk μc w) (hle : MLe μ1 μc) => lof_spec b2 _ w μc hw (hkb2.mono hle) (by omega) hshb (hTA.mono (hle1.trans hle))
  obtain ⟨ra, hqa⟩ : ∃ r, lofR a2 = r := ⟨_, rfl⟩
  obtain ⟨rb, hqb⟩ : ∃ r, lofR b2 = r := ⟨_, rfl⟩
  rw [hqa] at hOa hjl
  rw [hqb] at hOb hjl
  repeat' (first | ((with_reducible show GC _ _ (Code.seq (Code.region 8 _ _) _) _ _ _ _); (apply gc_stop)) | refine KO ?_ | ((with_reducible apply F1 9); exact rfl; exact EN; first | (exact fun w μc hw hse => hRa w μc hw hse.le) | (exact fun w μc hw hse => hRb w μc hw hse.le)) | ((with_reducible apply F2 8); exact rfl; exact EN; first | ((exact fun w hw => hOa w _ hw (MLe.refl _)); (rintro v3 μ3 hle3 hp3); (obtain ⟨A1, c1, A2, c2, rfl, hM1, hJ1⟩ := lof_post hp3)) | ((refine fun w hw => hOb w _ hw ?_; assumption); (rintro v4 μ4 hle4 hp4); (obtain ⟨A3, c3, A4, c4, rfl, hM2, hJ2⟩ := lof_post hp4))) | refine KI ?_ | refine NB fun b => ?_ | ((refine KB ?_ ?_ <;> intro hp)) | refine KG ?_ | fail)
  all_goals try (exfalso; omega)
  have hle34 := hle3.trans hle4
  have hSa4 := hSa.mono hle34
  have hSb4 := hSb.mono hle34
  have hone1 := Kids.one hkpa
  have hone2 := Kids.one hkpb
  refine gcs (gc_sel (l' := [(5, .slice A1 (mks ra).length c1), (6, .slice A2 (jps ra).length c2), (8, .int .i64 (erR ra)), (9, .slice A3 (mks rb).length c3), (10, .slice A4 (jps rb).length c4), (12, .int .i64 (erR rb)), (2, .pointer (some ⟨bA, 0, none⟩)), (3, .pointer (some ⟨bB, 0, none⟩))]) (L' := [.inl ⟨bA, 24, 6, idx 0 (encT a2 (.slice Aa a2.kids.length ca))⟩, .inl ⟨bB, 24, 6, idx 0 (encT b2 (.slice Ab b2.kids.length cb))⟩]) PU PS ?_)
  repeat' (first | ((with_reducible show GC _ _ (Code.seq (Code.region 11 _ _) _) _ _ _ _); (apply gc_stop)) | refine KO ?_ | ((with_reducible apply g_append0); (iterate 9 exact rfl); ((with_reducible apply src_sh (enc := encTV)); exact rfl; exact hSa4; (intro x hx; rfl)); (rw [flatT_len]; omega); (exact hone1); omega; omega; (intro v5); ((with_reducible apply g_rowOk 0); exact rfl; rintro A5 c5 rfl hok5)) | ((with_reducible apply g_ap); exact rfl; exact rfl; exact rfl; (repeat first | with_reducible exact rowup_hd | with_reducible apply rowup_tl); (iterate 6 exact rfl); ((with_reducible apply src_sh (enc := encTV)); exact rfl; exact hSb4; (intro x hx; rfl)); (rw [flatT_len]; omega); (exact hone2); omega; omega; (intro v6); ((with_reducible apply g_rowOk 0); exact rfl; rintro A6 c6 rfl hok6)) | refine KI ?_ | refine NB fun b => ?_ | ((refine KB ?_ ?_ <;> intro hp)) | refine KG ?_ | fail)
  refine gcs (gc_sel (l' := [(13, .pointer (some ⟨b, 0, none⟩)), (5, .slice A1 (mks ra).length c1), (6, .slice A2 (jps ra).length c2), (8, .int .i64 (erR ra)), (9, .slice A3 (mks rb).length c3), (10, .slice A4 (jps rb).length c4), (12, .int .i64 (erR rb))]) (L' := [.inr ⟨.slice A6 (a2.kids.length + b2.kids.length) c6, 24, 6, a2.kids.length + b2.kids.length, psa.flatMap encTV ++ psb.flatMap encTV⟩, .inl ⟨b, 24, 6, idx 0 (encT (joinT a2 b2) (.slice A6 (a2.kids.length + b2.kids.length) c6))⟩]) PU PS ?_)
  refine gc_share_0 rfl ?_
  intro μ5 hle5 hsh5
  have hkj : KR μ5 (joinT a2 b2).kids (.slice A6 (a2.kids.length + b2.kids.length) c6) := by
    have h := kr_of_row2 (ps := psa ++ psb) (by simp; omega) (by simp) hsh5 (fun p hp => by
      rcases List.mem_append.1 hp with h | h
      · exact (hkpa p h).mono (hle34.trans hle5)
      · exact (hkpb p h).mono (hle34.trans hle5))
    rw [List.map_append, hpa, hpb] at h
    exact h
  have hoj := hkj.one
  have hsj := join_size a2 b2
  have hOj := fun (w : World) (hw : MOk μ5 w) => lof_spec (joinT a2 b2) _ w μ5 hw hkj (by omega) (join_sh hsha hshb) (hTA.mono (hle1.trans (hle34.trans hle5)))
  cases ra with
  | error xa =>
    have hx := lof_err hqa
    dsimp only at hjl
    rw [hjl] at hOj
    dsimp only [mks, jps, erR, List.length_nil]
    repeat' (first | refine KO ?_ | ((with_reducible apply F2 8); exact rfl; exact EN; (exact fun w hw => hOj w hw); rintro v7 μ7 hle7 rfl) | refine KI ?_ | refine NB fun b => ?_ | ((refine KB ?_ ?_ <;> intro hp)) | refine KG ?_ | fail)
    all_goals first | (exfalso; omega) | exact ret_s rfl rfl rfl | (refine ret_s rfl rfl ?_; simp [hx])
  | ok sa =>
    cases rb with
    | error xb =>
      have hx := lof_err hqb
      dsimp only [Except.map] at hjl
      rw [hjl] at hOj
      dsimp only [mks, jps, erR, List.length_nil]
      repeat' (first | refine KO ?_ | ((with_reducible apply F2 8); exact rfl; exact EN; (exact fun w hw => hOj w hw); rintro v7 μ7 hle7 rfl) | refine KI ?_ | refine NB fun b => ?_ | ((refine KB ?_ ?_ <;> intro hp)) | refine KG ?_ | fail)
      all_goals first | (exfalso; omega) | exact ret_s rfl rfl rfl | (refine ret_s rfl rfl ?_; simp [hx])
    | ok sb =>
      obtain ⟨-, -, hfa2⟩ := lof_ok hqa
      obtain ⟨-, -, hfb2⟩ := lof_ok hqb
      obtain ⟨hla1, hla2⟩ := ofF_lands hfa2
      obtain ⟨hlb1, hlb2⟩ := ofF_lands hfb2
      obtain ⟨hga1, hga2, hga3⟩ := ofF_grew hfa2
      obtain ⟨hgb1, hgb2, hgb3⟩ := ofF_grew hfb2
      dsimp only [Except.map] at hjl
      rw [hjl] at hOj
      have e1 : (shS sa.next sa.marks sa.jumps sb).marks.length = sa.marks.length + sb.marks.length := by simp [shS]
      have e2 : (shS sa.next sa.marks sa.jumps sb).jumps.length = sa.jumps.length + sb.jumps.length := by simp [shS]
      dsimp only [mks, jps, erR] at hM1 hJ1 hM2 hJ2 ⊢
      repeat' (first | refine KO ?_ | ((with_reducible apply F2 8); exact rfl; exact EN; (exact fun w hw => hOj w hw); rintro v7 μ7 hle7 ⟨A7, c7, A8, c8, rfl, hM3, hJ3⟩; (rw [e1] at hM3 ⊢); (rw [e2] at hJ3 ⊢)) | refine KI ?_ | refine NB fun b => ?_ | ((refine KB ?_ ?_ <;> intro hp)) | refine KG ?_ | fail)
      all_goals try (exfalso; omega)
      have hle57 := hle5.trans hle7
      have hM1 := hM1.mono (hle4.trans hle57)
      have hJ1 := hJ1.mono (hle4.trans hle57)
      have hM2 := hM2.mono hle57
      have hJ2 := hJ2.mono hle57
      refine gc_loop (ι := Nat × Int) (fun i => i.1 ≤ sa.marks.length ∧ 0 ≤ i.2 ∧ runM (sa.marks.drop i.1) i.2 = some (sa.next : Int)) (fun i => sa.marks.length - i.1) (fun _ => μ7) (fun i => [(19, .int .i64 i.1), (18, .int .i64 i.2), (5, .slice A1 sa.marks.length c1), (6, .slice A2 sa.jumps.length c2), (9, .slice A3 sb.marks.length c3), (10, .slice A4 sb.jumps.length c4), (14, .slice A7 (sa.marks.length + sb.marks.length) c7), (15, .slice A8 (sa.jumps.length + sb.jumps.length) c8)]) (fun _ => []) (0, 0) ⟨Nat.zero_le _, Int.le_refl _, hla1⟩ (fun a w hs => J5 hs) ?_
      rintro ⟨i, nx⟩ ⟨hil, hnx, hrun⟩
      dsimp only at hil hnx hrun ⊢
      have hnl := runM_le _ _ _ hrun
      by_cases hlt : i < sa.marks.length
      · obtain ⟨ad, m, hA1, hmi, hm⟩ := hM1.get hlt
        obtain ⟨ax, y, hA7, hyi, hy⟩ := hM3.get (show i < sa.marks.length + sb.marks.length by omega)
        have hym : y = m := by
          have h : (sa.marks ++ sb.marks.map (shM sa.next))[i]? = some y := hyi
          rw [List.getElem?_append_left hlt, hmi] at h
          exact (Option.some.inj h).symm
        subst hym
        subst hA1
        subst hA7
        have hd : sa.marks.drop i = y :: sa.marks.drop (i + 1) := by
          obtain ⟨h1, h2⟩ := List.getElem?_eq_some_iff.1 hmi
          rw [List.drop_eq_getElem_cons h1, h2]
        rw [hd] at hrun
        unfold runM at hrun
        split at hrun
        · rename_i hmm
          obtain ⟨hm1, hm2⟩ := hmm
          have hnl2 := runM_le _ _ _ hrun
          obtain ⟨nx2, hnx2⟩ : ∃ z, (if 0 ≤ y.2.2 then nx + 2 else nx + 1) = z := ⟨_, rfl⟩
          rw [hnx2] at hrun hnl2
          have hmax : max (max nx (y.2.1 + 1)) (y.2.2 + 1) = nx2 := by
            split at hnx2 <;> omega
          have hnx3 : 0 ≤ nx2 := by split at hnx2 <;> omega
          repeat' (first | ((with_reducible show GC _ _ (Code.region 20 _ _) _ _ _ _); (apply gc_stop)) | refine KK ?_ | refine NB fun b => ?_ | ((refine KB ?_ ?_ <;> intro hp)) | refine KG ?_ | fail)
          refine gcs ?_
          refine gc_draw 15 ([]) (by kernel_rfl) rfl (by first | exact List.Sublist.refl _ | simp) ?_
          all_goals refine DD 0 ?_
          all_goals refine DD 1 ?_
          all_goals refine DD 2 ?_
          all_goals (first | refine D1 3 ?_ | (refine DV (k := 3) (b := by first | exact U1 i | exact U4 hm | ((with_reducible apply v_max3 (r := nx2)); exact rfl; exact rfl; exact rfl; exact hmax)) (c := ?_)) | refine DD 3 ?_ | fail)
          all_goals (first | refine D1 4 ?_ | (refine DV (k := 4) (b := by first | exact U1 i | exact U4 hm | ((with_reducible apply v_max3 (r := nx2)); exact rfl; exact rfl; exact rfl; exact hmax)) (c := ?_)) | refine DD 4 ?_ | fail)
          all_goals (first | refine D1 5 ?_ | (refine DV (k := 5) (b := by first | exact U1 i | exact U4 hm | ((with_reducible apply v_max3 (r := nx2)); exact rfl; exact rfl; exact rfl; exact hmax)) (c := ?_)) | (refine D3 5 (DW (b := by first | exact U1 i | exact U4 hm | ((with_reducible apply v_max3 (r := nx2)); exact rfl; exact rfl; exact rfl; exact hmax)) (c := ?_))) | refine DD 5 ?_ | fail)
          all_goals (first | refine D1 6 ?_ | (refine DV (k := 6) (b := by first | exact U1 i | exact U4 hm | ((with_reducible apply v_max3 (r := nx2)); exact rfl; exact rfl; exact rfl; exact hmax)) (c := ?_)) | refine DD 6 ?_ | fail)
          all_goals refine DD 7 ?_
          all_goals refine DD 8 ?_
          all_goals (first | refine D1 9 ?_ | (refine DV (k := 9) (b := by first | exact U1 i | exact U4 hm | ((with_reducible apply v_max3 (r := nx2)); exact rfl; exact rfl; exact rfl; exact hmax)) (c := ?_)) | refine DD 9 ?_ | fail)
          all_goals (first | refine D1 10 ?_ | (refine DV (k := 10) (b := by first | exact U1 i | exact U4 hm | ((with_reducible apply v_max3 (r := nx2)); exact rfl; exact rfl; exact rfl; exact hmax)) (c := ?_)) | refine DD 10 ?_ | fail)
          all_goals (first | refine D1 11 ?_ | (refine DV (k := 11) (b := by first | exact U1 i | exact U4 hm | ((with_reducible apply v_max3 (r := nx2)); exact rfl; exact rfl; exact rfl; exact hmax)) (c := ?_)) | (refine D3 11 (DW (b := by first | exact U1 i | exact U4 hm | ((with_reducible apply v_max3 (r := nx2)); exact rfl; exact rfl; exact rfl; exact hmax)) (c := ?_))) | refine DD 11 ?_ | fail)
          all_goals (first | refine D1 12 ?_ | (refine DV (k := 12) (b := by first | exact U1 i | exact U4 hm | ((with_reducible apply v_max3 (r := nx2)); exact rfl; exact rfl; exact rfl; exact hmax)) (c := ?_)) | refine DD 12 ?_ | fail)
          all_goals (first | refine D1 13 ?_ | (refine DV (k := 13) (b := by first | exact U1 i | exact U4 hm | ((with_reducible apply v_max3 (r := nx2)); exact rfl; exact rfl; exact rfl; exact hmax)) (c := ?_)) | refine DD 13 ?_ | fail)
          all_goals refine DD 14 ?_
          all_goals refine D8 ?_
          repeat' (first | ((with_reducible show GC _ _ (Code.region 21 _ _) _ _ _ _); (apply gc_stop)) | refine KK ?_ | refine NB fun b => ?_ | ((refine KB ?_ ?_ <;> intro hp)) | refine KG ?_ | fail)
          refine gcs ?_
          refine gc_draw 9 ([]) (by kernel_rfl) rfl (by first | exact List.Sublist.refl _ | simp) ?_
          all_goals refine DD 0 ?_
          all_goals refine DD 1 ?_
          all_goals (first | refine D1 2 ?_ | (refine DV (k := 2) (b := by first | exact U1 i | exact U4 hm | exact U4 hy | ((with_reducible apply v_nsame); exact rfl; exact rfl; exact rfl; kernel_rfl; kernel_rfl; kernel_rfl; kernel_rfl)) (c := ?_)) | refine DD 2 ?_ | fail)
          all_goals (first | refine D1 3 ?_ | (refine DV (k := 3) (b := by first | exact U1 i | exact U4 hm | exact U4 hy | ((with_reducible apply v_nsame); exact rfl; exact rfl; exact rfl; kernel_rfl; kernel_rfl; kernel_rfl; kernel_rfl)) (c := ?_)) | (refine D3 3 (DW (b := by first | exact U1 i | exact U4 hm | exact U4 hy | ((with_reducible apply v_nsame); exact rfl; exact rfl; exact rfl; kernel_rfl; kernel_rfl; kernel_rfl; kernel_rfl)) (c := ?_))) | refine DD 3 ?_ | fail)
          all_goals refine DD 4 ?_
          all_goals refine DD 5 ?_
          all_goals (first | refine D1 6 ?_ | (refine DV (k := 6) (b := by first | exact U1 i | exact U4 hm | exact U4 hy | ((with_reducible apply v_nsame); exact rfl; exact rfl; exact rfl; kernel_rfl; kernel_rfl; kernel_rfl; kernel_rfl)) (c := ?_)) | refine DD 6 ?_ | fail)
          all_goals (first | refine D1 7 ?_ | (refine DV (k := 7) (b := by first | exact U1 i | exact U4 hm | exact U4 hy | ((with_reducible apply v_nsame); exact rfl; exact rfl; exact rfl; kernel_rfl; kernel_rfl; kernel_rfl; kernel_rfl)) (c := ?_)) | (refine D3 7 (DW (b := by first | exact U1 i | exact U4 hm | exact U4 hy | ((with_reducible apply v_nsame); exact rfl; exact rfl; exact rfl; kernel_rfl; kernel_rfl; kernel_rfl; kernel_rfl)) (c := ?_))) | refine DD 7 ?_ | fail)
          all_goals (first | refine D1 8 ?_ | (refine DV (k := 8) (b := by first | exact U1 i | exact U4 hm | exact U4 hy | ((with_reducible apply v_nsame); exact rfl; exact rfl; exact rfl; kernel_rfl; kernel_rfl; kernel_rfl; kernel_rfl)) (c := ?_)) | refine DD 8 ?_ | fail)
          all_goals refine D8 ?_
          repeat' (first | refine KK ?_ | refine NB fun b => ?_ | ((refine KB ?_ ?_ <;> intro hp)) | refine KG ?_ | fail)
          exact J2 (i + 1, nx2) ⟨by dsimp only; omega, hnx3, hrun⟩ (by dsimp only; omega)
        · cases hrun
      have hi : i = sa.marks.length := by omega
      subst hi
      rw [List.drop_length] at hrun
      have hnx2 : nx = sa.next := by
        unfold runM at hrun
        exact Option.some.inj hrun
      subst hnx2
      repeat' (first | refine KK ?_ | refine NB fun b => ?_ | ((refine KB ?_ ?_ <;> intro hp)) | refine KG ?_ | fail)
      refine gc_loop (ι := Nat) (fun i => i ≤ sb.marks.length) (fun i => sb.marks.length - i) (fun _ => μ7) (fun i => [(20, .int .i64 i), (18, .int .i64 sa.next), (5, .slice A1 sa.marks.length c1), (6, .slice A2 sa.jumps.length c2), (9, .slice A3 sb.marks.length c3), (10, .slice A4 sb.jumps.length c4), (14, .slice A7 (sa.marks.length + sb.marks.length) c7), (15, .slice A8 (sa.jumps.length + sb.jumps.length) c8)]) (fun _ => []) 0 (Nat.zero_le _) (fun a w hs => J5 hs) ?_
      intro i hil
      by_cases hlt : i < sb.marks.length
      · obtain ⟨ad, y, hA3, hyi, hy⟩ := hM2.get hlt
        obtain ⟨ax, x, hA7, hxi, hx⟩ := hM3.get (show sa.marks.length + i < sa.marks.length + sb.marks.length by omega)
        have hxy : x = shM sa.next y := by
          have h : (sa.marks ++ sb.marks.map (shM sa.next))[sa.marks.length + i]? = some x := hxi
          rw [List.getElem?_append_right (by omega), Nat.add_sub_cancel_left, List.getElem?_map, hyi] at h
          exact (Option.some.inj h).symm
        subst hA3
        subst hA7
        obtain ⟨hn1, hn2, hn3, hn4⟩ := runM_nonneg _ _ _ (Int.le_refl 0) hlb1 y (List.mem_of_getElem? hyi)
        obtain ⟨r, hr⟩ : ∃ r, shI sa.next y.2.2 = r := ⟨_, rfl⟩
        have hx3 : MCells μ7 (ax.add ((sa.marks.length + i) * 3)) [.int .i64 y.1, .int .i64 (y.2.1 + sa.next), .int .i64 r] := by
          have h : shI sa.next y.2.1 = y.2.1 + sa.next := by unfold shI; rw [if_neg (by omega)]
          rw [hxy] at hx
          unfold shM at hx
          dsimp only [encM] at hx
          rw [h, hr] at hx
          exact hx
        repeat' (first | ((with_reducible show GC _ _ (Code.region 26 _ _) _ _ _ _); (apply gc_stop)) | refine KK ?_ | refine NB fun b => ?_ | ((refine KB ?_ ?_ <;> intro hp)) | refine KG ?_ | fail)
        refine gcs ?_
        refine gc_draw 20 ([]) (by kernel_rfl) rfl (by first | exact List.Sublist.refl _ | simp) ?_
        all_goals (first | refine D1 0 ?_ | (refine DV (k := 0) (b := by first | exact U1 i | exact U4 hy) (c := ?_)) | (refine D3 0 (DW (b := by first | exact U1 i | exact U4 hy) (c := ?_))) | refine DD 0 ?_ | fail)
        all_goals (first | refine D1 1 ?_ | (refine DV (k := 1) (b := by first | exact U1 i | exact U4 hy) (c := ?_)) | (refine D3 1 (DW (b := by first | exact U1 i | exact U4 hy) (c := ?_))) | refine DD 1 ?_ | fail)
        all_goals (first | refine D1 2 ?_ | (refine DV (k := 2) (b := by first | exact U1 i | exact U4 hy) (c := ?_)) | (refine D3 2 (DW (b := by first | exact U1 i | exact U4 hy) (c := ?_))) | refine DD 2 ?_ | fail)
        all_goals (first | refine D1 3 ?_ | (refine DV (k := 3) (b := by first | exact U1 i | exact U4 hy) (c := ?_)) | (refine D3 3 (DW (b := by first | exact U1 i | exact U4 hy) (c := ?_))) | refine DD 3 ?_ | fail)
        all_goals (first | refine D1 4 ?_ | (refine DV (k := 4) (b := by first | exact U1 i | exact U4 hy) (c := ?_)) | (refine D3 4 (DW (b := by first | exact U1 i | exact U4 hy) (c := ?_))) | refine DD 4 ?_ | fail)
        all_goals (first | refine D1 5 ?_ | (refine DV (k := 5) (b := by first | exact U1 i | exact U4 hy) (c := ?_)) | (refine D3 5 (DW (b := by first | exact U1 i | exact U4 hy) (c := ?_))) | refine DD 5 ?_ | fail)
        all_goals (first | refine D1 6 ?_ | (refine DV (k := 6) (b := by first | exact U1 i | exact U4 hy) (c := ?_)) | (refine D3 6 (DW (b := by first | exact U1 i | exact U4 hy) (c := ?_))) | refine DD 6 ?_ | fail)
        all_goals (first | refine D1 7 ?_ | (refine DV (k := 7) (b := by first | exact U1 i | exact U4 hy) (c := ?_)) | (refine D3 7 (DW (b := by first | exact U1 i | exact U4 hy) (c := ?_))) | refine DD 7 ?_ | fail)
        all_goals (first | refine D1 8 ?_ | (refine DV (k := 8) (b := by first | exact U1 i | exact U4 hy) (c := ?_)) | (refine D3 8 (DW (b := by first | exact U1 i | exact U4 hy) (c := ?_))) | refine DD 8 ?_ | fail)
        all_goals (first | refine D1 9 ?_ | (refine DV (k := 9) (b := by first | exact U1 i | exact U4 hy) (c := ?_)) | (refine D3 9 (DW (b := by first | exact U1 i | exact U4 hy) (c := ?_))) | refine DD 9 ?_ | fail)
        all_goals (first | refine D1 10 ?_ | (refine DV (k := 10) (b := by first | exact U1 i | exact U4 hy) (c := ?_)) | (refine D3 10 (DW (b := by first | exact U1 i | exact U4 hy) (c := ?_))) | refine DD 10 ?_ | fail)
        all_goals (first | refine D1 11 ?_ | (refine DV (k := 11) (b := by first | exact U1 i | exact U4 hy) (c := ?_)) | (refine D3 11 (DW (b := by first | exact U1 i | exact U4 hy) (c := ?_))) | refine DD 11 ?_ | fail)
        all_goals (first | refine D1 12 ?_ | (refine DV (k := 12) (b := by first | exact U1 i | exact U4 hy) (c := ?_)) | (refine D3 12 (DW (b := by first | exact U1 i | exact U4 hy) (c := ?_))) | refine DD 12 ?_ | fail)
        all_goals (first | refine D1 13 ?_ | (refine DV (k := 13) (b := by first | exact U1 i | exact U4 hy) (c := ?_)) | (refine D3 13 (DW (b := by first | exact U1 i | exact U4 hy) (c := ?_))) | refine DD 13 ?_ | fail)
        all_goals (first | refine D1 14 ?_ | (refine DV (k := 14) (b := by first | exact U1 i | exact U4 hy) (c := ?_)) | (refine D3 14 (DW (b := by first | exact U1 i | exact U4 hy) (c := ?_))) | refine DD 14 ?_ | fail)
        all_goals (first | refine D1 15 ?_ | (refine DV (k := 15) (b := by first | exact U1 i | exact U4 hy) (c := ?_)) | (refine D3 15 (DW (b := by first | exact U1 i | exact U4 hy) (c := ?_))) | refine DD 15 ?_ | fail)
        all_goals (first | refine D1 16 ?_ | (refine DV (k := 16) (b := by first | exact U1 i | exact U4 hy) (c := ?_)) | (refine D3 16 (DW (b := by first | exact U1 i | exact U4 hy) (c := ?_))) | refine DD 16 ?_ | fail)
        all_goals (first | refine D1 17 ?_ | (refine DV (k := 17) (b := by first | exact U1 i | exact U4 hy) (c := ?_)) | (refine D3 17 (DW (b := by first | exact U1 i | exact U4 hy) (c := ?_))) | refine DD 17 ?_ | fail)
        all_goals (first | (refine D3 18 ?_; refine D5 ?_; refine NB fun b => ?_; refine D9 ?_))
        all_goals (first | (refine D3 19 ?_; refine D5 ?_; refine Y0 ?_; refine D9 ?_))
        all_goals refine D8 ?_
        all_goals refine gq_then ?_
        refine gc_join (ι := Unit) (fun _ => True) (fun _ => μ7) (fun _ => [(20, .int .i64 i), (21, .pointer (some ⟨b, 0, none⟩)), (18, .int .i64 sa.next), (5, .slice A1 sa.marks.length c1), (6, .slice A2 sa.jumps.length c2), (9, .slice (some ad) sb.marks.length c3), (10, .slice A4 sb.jumps.length c4), (14, .slice (some ax) (sa.marks.length + sb.marks.length) c7), (15, .slice A8 (sa.jumps.length + sb.jumps.length) c8)]) (fun _ => [.inl ⟨b, 33, 3, idx 0 [.int .i64 y.1, .int .i64 (y.2.1 + sa.next), .int .i64 r]⟩]) ?_ ?_
        · by_cases h0 : 0 ≤ y.2.2
          · have hr2 : r = y.2.2 + sa.next := by rw [← hr]; unfold shI; rw [if_neg (by omega)]
            subst hr2
            repeat' (first | refine KK ?_ | refine NB fun b => ?_ | ((refine KB ?_ ?_ <;> intro hp)) | refine KG ?_ | fail)
            all_goals first | (exfalso; omega) | exact J1 () trivial
          · have hr2 : r = y.2.2 := by rw [← hr]; unfold shI; rw [if_pos (by omega)]
            subst hr2
            repeat' (first | refine KK ?_ | refine NB fun b => ?_ | ((refine KB ?_ ?_ <;> intro hp)) | refine KG ?_ | fail)
            all_goals first | (exfalso; omega) | exact J1 () trivial
        intro _ _
        refine gc_seq ?_
        refine gc_draw 9 _ (by kernel_rfl) rfl (List.Sublist.cons_cons _ (List.nil_sublist _)) ?_
        all_goals refine DD 0 ?_
        all_goals refine DD 1 ?_
        all_goals (first | refine D1 2 ?_ | (refine DV (k := 2) (b := by first | exact U1 (sa.marks.length + i) | exact U4 hx3 | ((with_reducible apply v_nsame); exact rfl; exact rfl; exact rfl; kernel_rfl; kernel_rfl; kernel_rfl; kernel_rfl)) (c := ?_)) | refine DD 2 ?_ | fail)
        all_goals refine DD 3 ?_
        all_goals (first | refine D1 4 ?_ | (refine DV (k := 4) (b := by first | exact U1 (sa.marks.length + i) | exact U4 hx3 | ((with_reducible apply v_nsame); exact rfl; exact rfl; exact rfl; kernel_rfl; kernel_rfl; kernel_rfl; kernel_rfl)) (c := ?_)) | refine DD 4 ?_ | fail)
        all_goals (first | refine D1 5 ?_ | (refine DV (k := 5) (b := by first | exact U1 (sa.marks.length + i) | exact U4 hx3 | ((with_reducible apply v_nsame); exact rfl; exact rfl; exact rfl; kernel_rfl; kernel_rfl; kernel_rfl; kernel_rfl)) (c := ?_)) | refine DD 5 ?_ | fail)
        all_goals (first | refine D1 6 ?_ | (refine DV (k := 6) (b := by first | exact U1 (sa.marks.length + i) | exact U4 hx3 | ((with_reducible apply v_nsame); exact rfl; exact rfl; exact rfl; kernel_rfl; kernel_rfl; kernel_rfl; kernel_rfl)) (c := ?_)) | (refine D3 6 (DW (b := by first | exact U1 (sa.marks.length + i) | exact U4 hx3 | ((with_reducible apply v_nsame); exact rfl; exact rfl; exact rfl; kernel_rfl; kernel_rfl; kernel_rfl; kernel_rfl)) (c := ?_))) | refine DD 6 ?_ | fail)
        all_goals (first | refine D1 7 ?_ | (refine DV (k := 7) (b := by first | exact U1 (sa.marks.length + i) | exact U4 hx3 | ((with_reducible apply v_nsame); exact rfl; exact rfl; exact rfl; kernel_rfl; kernel_rfl; kernel_rfl; kernel_rfl)) (c := ?_)) | (refine D3 7 (DW (b := by first | exact U1 (sa.marks.length + i) | exact U4 hx3 | ((with_reducible apply v_nsame); exact rfl; exact rfl; exact rfl; kernel_rfl; kernel_rfl; kernel_rfl; kernel_rfl)) (c := ?_))) | refine DD 7 ?_ | fail)
        all_goals (first | refine D1 8 ?_ | (refine DV (k := 8) (b := by first | exact U1 (sa.marks.length + i) | exact U4 hx3 | ((with_reducible apply v_nsame); exact rfl; exact rfl; exact rfl; kernel_rfl; kernel_rfl; kernel_rfl; kernel_rfl)) (c := ?_)) | refine DD 8 ?_ | fail)
        all_goals refine D8 ?_
        repeat' (first | refine KK ?_ | refine NB fun b => ?_ | ((refine KB ?_ ?_ <;> intro hp)) | refine KG ?_ | fail)
        exact J2 (i + 1) (by omega) (by omega)
      have hi : i = sb.marks.length := by omega
      subst hi
      repeat' (first | refine KK ?_ | refine NB fun b => ?_ | ((refine KB ?_ ?_ <;> intro hp)) | refine KG ?_ | fail)
      refine gc_loop (ι := Nat) (fun i => i ≤ sa.jumps.length + sb.jumps.length) (fun i => sa.jumps.length + sb.jumps.length - i) (fun _ => μ7) (fun i => [(22, .int .i64 i), (18, .int .i64 sa.next), (6, .slice A2 sa.jumps.length c2), (10, .slice A4 sb.jumps.length c4), (15, .slice A8 (sa.jumps.length + sb.jumps.length) c8)]) (fun _ => []) 0 (Nat.zero_le _) (fun a w hs => J5 hs) ?_
      intro i hil
      by_cases hlt : i < sa.jumps.length + sb.jumps.length
      · obtain ⟨ax, x, hA8, hxi, hx⟩ := hJ3.get hlt
        subst hA8
        have hxi : (sa.jumps ++ sb.jumps.map (shJ sa.next))[i]? = some x := hxi
        by_cases hj : i < sa.jumps.length
        · obtain ⟨ad, y, hA2, hyi, hy⟩ := hJ1.get hj
          subst hA2
          have hxy : x = y := by
            rw [List.getElem?_append_left hj, hyi] at hxi
            exact (Option.some.inj hxi).symm
          subst hxy
          repeat' (first | ((with_reducible show GC _ _ (Code.seq (Code.region 38 _ _) _) _ _ _ _); (apply gc_stop)) | refine KO ?_ | (refine KV (b := by first | exact U1 i | exact U4 hy) (c := ?_)) | refine KI ?_ | refine NB fun b => ?_ | ((refine KB ?_ ?_ <;> intro hp)) | refine KG ?_ | fail)
          all_goals try (exfalso; omega)
          refine gcs (gc_seq ?_)
          refine gc_draw 6 _ (by kernel_rfl) rfl (List.Sublist.cons_cons _ (List.nil_sublist _)) ?_
          all_goals refine DD 0 ?_
          all_goals refine DD 1 ?_
          all_goals (first | refine D1 2 ?_ | (refine DV (k := 2) (b := by first | exact U1 i | exact U4 hx | ((with_reducible apply v_nsame); exact rfl; exact rfl; exact rfl; kernel_rfl; kernel_rfl; kernel_rfl; kernel_rfl)) (c := ?_)) | refine DD 2 ?_ | fail)
          all_goals (first | refine D1 3 ?_ | (refine DV (k := 3) (b := by first | exact U1 i | exact U4 hx | ((with_reducible apply v_nsame); exact rfl; exact rfl; exact rfl; kernel_rfl; kernel_rfl; kernel_rfl; kernel_rfl)) (c := ?_)) | (refine D3 3 (DW (b := by first | exact U1 i | exact U4 hx | ((with_reducible apply v_nsame); exact rfl; exact rfl; exact rfl; kernel_rfl; kernel_rfl; kernel_rfl; kernel_rfl)) (c := ?_))) | refine DD 3 ?_ | fail)
          all_goals (first | refine D1 4 ?_ | (refine DV (k := 4) (b := by first | exact U1 i | exact U4 hx | ((with_reducible apply v_nsame); exact rfl; exact rfl; exact rfl; kernel_rfl; kernel_rfl; kernel_rfl; kernel_rfl)) (c := ?_)) | (refine D3 4 (DW (b := by first | exact U1 i | exact U4 hx | ((with_reducible apply v_nsame); exact rfl; exact rfl; exact rfl; kernel_rfl; kernel_rfl; kernel_rfl; kernel_rfl)) (c := ?_))) | refine DD 4 ?_ | fail)
          all_goals (first | refine D1 5 ?_ | (refine DV (k := 5) (b := by first | exact U1 i | exact U4 hx | ((with_reducible apply v_nsame); exact rfl; exact rfl; exact rfl; kernel_rfl; kernel_rfl; kernel_rfl; kernel_rfl)) (c := ?_)) | refine DD 5 ?_ | fail)
          all_goals refine D8 ?_
          repeat' (first | refine KK ?_ | refine NB fun b => ?_ | ((refine KB ?_ ?_ <;> intro hp)) | refine KG ?_ | fail)
          exact J2 (i + 1) (by omega) (by omega)
        · obtain ⟨ad, y, hA4, hyi, hy⟩ := hJ2.get (show i - sa.jumps.length < sb.jumps.length by omega)
          subst hA4
          have hxy : x = shJ sa.next y := by
            rw [List.getElem?_append_right (by omega), List.getElem?_map, hyi] at hxi
            exact (Option.some.inj hxi).symm
          obtain ⟨hn1, hn2⟩ := hlb2 y (List.mem_of_getElem? hyi)
          have hx3 : MCells μ7 (ax.add (i * 2)) [.int .i64 y.1, .int .i64 (y.2 + sa.next)] := by
            have h : shI sa.next y.2 = y.2 + sa.next := by unfold shI; rw [if_neg (by omega)]
            rw [hxy] at hx
            unfold shJ at hx
            dsimp only [encJ] at hx
            rw [h] at hx
            exact hx
          repeat' (first | ((with_reducible show GC _ _ (Code.region 37 _ _) _ _ _ _); (apply gc_stop)) | refine KK ?_ | refine NB fun b => ?_ | ((refine KB ?_ ?_ <;> intro hp)) | refine KG ?_ | fail)
          all_goals try (exfalso; omega)
          refine gcs ?_
          refine gc_draw 20 _ (by kernel_rfl) rfl (List.Sublist.cons _ (List.nil_sublist _)) ?_
          all_goals (first | refine D1 0 ?_ | (refine DV (k := 0) (b := by first | exact U1 (i - sa.jumps.length) | exact U4 hy) (c := ?_)) | (refine D3 0 (DW (b := by first | exact U1 (i - sa.jumps.length) | exact U4 hy) (c := ?_))) | refine DD 0 ?_ | fail)
          all_goals (first | refine D1 1 ?_ | (refine DV (k := 1) (b := by first | exact U1 (i - sa.jumps.length) | exact U4 hy) (c := ?_)) | (refine D3 1 (DW (b := by first | exact U1 (i - sa.jumps.length) | exact U4 hy) (c := ?_))) | refine DD 1 ?_ | fail)
          all_goals (first | refine D1 2 ?_ | (refine DV (k := 2) (b := by first | exact U1 (i - sa.jumps.length) | exact U4 hy) (c := ?_)) | (refine D3 2 (DW (b := by first | exact U1 (i - sa.jumps.length) | exact U4 hy) (c := ?_))) | refine DD 2 ?_ | fail)
          all_goals (first | refine D1 3 ?_ | (refine DV (k := 3) (b := by first | exact U1 (i - sa.jumps.length) | exact U4 hy) (c := ?_)) | (refine D3 3 (DW (b := by first | exact U1 (i - sa.jumps.length) | exact U4 hy) (c := ?_))) | refine DD 3 ?_ | fail)
          all_goals (first | refine D1 4 ?_ | (refine DV (k := 4) (b := by first | exact U1 (i - sa.jumps.length) | exact U4 hy) (c := ?_)) | (refine D3 4 (DW (b := by first | exact U1 (i - sa.jumps.length) | exact U4 hy) (c := ?_))) | refine DD 4 ?_ | fail)
          all_goals (first | refine D1 5 ?_ | (refine DV (k := 5) (b := by first | exact U1 (i - sa.jumps.length) | exact U4 hy) (c := ?_)) | (refine D3 5 (DW (b := by first | exact U1 (i - sa.jumps.length) | exact U4 hy) (c := ?_))) | refine DD 5 ?_ | fail)
          all_goals (first | refine D1 6 ?_ | (refine DV (k := 6) (b := by first | exact U1 (i - sa.jumps.length) | exact U4 hy) (c := ?_)) | (refine D3 6 (DW (b := by first | exact U1 (i - sa.jumps.length) | exact U4 hy) (c := ?_))) | refine DD 6 ?_ | fail)
          all_goals (first | refine D1 7 ?_ | (refine DV (k := 7) (b := by first | exact U1 (i - sa.jumps.length) | exact U4 hy) (c := ?_)) | (refine D3 7 (DW (b := by first | exact U1 (i - sa.jumps.length) | exact U4 hy) (c := ?_))) | refine DD 7 ?_ | fail)
          all_goals (first | refine D1 8 ?_ | (refine DV (k := 8) (b := by first | exact U1 (i - sa.jumps.length) | exact U4 hy) (c := ?_)) | (refine D3 8 (DW (b := by first | exact U1 (i - sa.jumps.length) | exact U4 hy) (c := ?_))) | refine DD 8 ?_ | fail)
          all_goals (first | refine D1 9 ?_ | (refine DV (k := 9) (b := by first | exact U1 (i - sa.jumps.length) | exact U4 hy) (c := ?_)) | (refine D3 9 (DW (b := by first | exact U1 (i - sa.jumps.length) | exact U4 hy) (c := ?_))) | refine DD 9 ?_ | fail)
          all_goals (first | refine D1 10 ?_ | (refine DV (k := 10) (b := by first | exact U1 (i - sa.jumps.length) | exact U4 hy) (c := ?_)) | (refine D3 10 (DW (b := by first | exact U1 (i - sa.jumps.length) | exact U4 hy) (c := ?_))) | refine DD 10 ?_ | fail)
          all_goals (first | refine D1 11 ?_ | (refine DV (k := 11) (b := by first | exact U1 (i - sa.jumps.length) | exact U4 hy) (c := ?_)) | (refine D3 11 (DW (b := by first | exact U1 (i - sa.jumps.length) | exact U4 hy) (c := ?_))) | refine DD 11 ?_ | fail)
          all_goals (first | refine D1 12 ?_ | (refine DV (k := 12) (b := by first | exact U1 (i - sa.jumps.length) | exact U4 hy) (c := ?_)) | (refine D3 12 (DW (b := by first | exact U1 (i - sa.jumps.length) | exact U4 hy) (c := ?_))) | refine DD 12 ?_ | fail)
          all_goals (first | refine D1 13 ?_ | (refine DV (k := 13) (b := by first | exact U1 (i - sa.jumps.length) | exact U4 hy) (c := ?_)) | (refine D3 13 (DW (b := by first | exact U1 (i - sa.jumps.length) | exact U4 hy) (c := ?_))) | refine DD 13 ?_ | fail)
          all_goals (first | refine D1 14 ?_ | (refine DV (k := 14) (b := by first | exact U1 (i - sa.jumps.length) | exact U4 hy) (c := ?_)) | (refine D3 14 (DW (b := by first | exact U1 (i - sa.jumps.length) | exact U4 hy) (c := ?_))) | refine DD 14 ?_ | fail)
          all_goals (first | refine D1 15 ?_ | (refine DV (k := 15) (b := by first | exact U1 (i - sa.jumps.length) | exact U4 hy) (c := ?_)) | (refine D3 15 (DW (b := by first | exact U1 (i - sa.jumps.length) | exact U4 hy) (c := ?_))) | refine DD 15 ?_ | fail)
          all_goals (first | refine D1 16 ?_ | (refine DV (k := 16) (b := by first | exact U1 (i - sa.jumps.length) | exact U4 hy) (c := ?_)) | (refine D3 16 (DW (b := by first | exact U1 (i - sa.jumps.length) | exact U4 hy) (c := ?_))) | refine DD 16 ?_ | fail)
          all_goals (first | refine D1 17 ?_ | (refine DV (k := 17) (b := by first | exact U1 (i - sa.jumps.length) | exact U4 hy) (c := ?_)) | (refine D3 17 (DW (b := by first | exact U1 (i - sa.jumps.length) | exact U4 hy) (c := ?_))) | refine DD 17 ?_ | fail)
          all_goals (first | refine D1 18 ?_ | (refine DV (k := 18) (b := by first | exact U1 (i - sa.jumps.length) | exact U4 hy) (c := ?_)) | (refine D3 18 (DW (b := by first | exact U1 (i - sa.jumps.length) | exact U4 hy) (c := ?_))) | refine DD 18 ?_ | fail)
          all_goals (first | (refine D3 19 ?_; refine D5 ?_; refine Y0 ?_; refine D9 ?_))
          all_goals refine D8 ?_
          all_goals repeat' (first | ((with_reducible show GC _ _ (Code.seq (Code.region 38 _ _) _) _ _ _ _); (apply gc_stop)) | refine KK ?_ | refine NB fun b => ?_ | ((refine KB ?_ ?_ <;> intro hp)) | refine KG ?_ | fail)
          all_goals refine gcs (gc_seq ?_)
          refine gc_draw 6 _ (by kernel_rfl) rfl (List.Sublist.cons_cons _ (List.nil_sublist _)) ?_
          all_goals refine DD 0 ?_
          all_goals refine DD 1 ?_
          all_goals (first | refine D1 2 ?_ | (refine DV (k := 2) (b := by first | exact U1 i | exact U4 hx3 | ((with_reducible apply v_nsame); exact rfl; exact rfl; exact rfl; kernel_rfl; kernel_rfl; kernel_rfl; kernel_rfl)) (c := ?_)) | refine DD 2 ?_ | fail)
          all_goals (first | refine D1 3 ?_ | (refine DV (k := 3) (b := by first | exact U1 i | exact U4 hx3 | ((with_reducible apply v_nsame); exact rfl; exact rfl; exact rfl; kernel_rfl; kernel_rfl; kernel_rfl; kernel_rfl)) (c := ?_)) | (refine D3 3 (DW (b := by first | exact U1 i | exact U4 hx3 | ((with_reducible apply v_nsame); exact rfl; exact rfl; exact rfl; kernel_rfl; kernel_rfl; kernel_rfl; kernel_rfl)) (c := ?_))) | refine DD 3 ?_ | fail)
          all_goals (first | refine D1 4 ?_ | (refine DV (k := 4) (b := by first | exact U1 i | exact U4 hx3 | ((with_reducible apply v_nsame); exact rfl; exact rfl; exact rfl; kernel_rfl; kernel_rfl; kernel_rfl; kernel_rfl)) (c := ?_)) | (refine D3 4 (DW (b := by first | exact U1 i | exact U4 hx3 | ((with_reducible apply v_nsame); exact rfl; exact rfl; exact rfl; kernel_rfl; kernel_rfl; kernel_rfl; kernel_rfl)) (c := ?_))) | refine DD 4 ?_ | fail)
          all_goals (first | refine D1 5 ?_ | (refine DV (k := 5) (b := by first | exact U1 i | exact U4 hx3 | ((with_reducible apply v_nsame); exact rfl; exact rfl; exact rfl; kernel_rfl; kernel_rfl; kernel_rfl; kernel_rfl)) (c := ?_)) | refine DD 5 ?_ | fail)
          all_goals refine D8 ?_
          repeat' (first | refine KK ?_ | refine NB fun b => ?_ | ((refine KB ?_ ?_ <;> intro hp)) | refine KG ?_ | fail)
          exact J2 (i + 1) (by omega) (by omega)
      have hi : i = sa.jumps.length + sb.jumps.length := by omega
      subst hi
      repeat' (first | refine KK ?_ | refine NB fun b => ?_ | ((refine KB ?_ ?_ <;> intro hp)) | refine KG ?_ | fail)
      all_goals first | (exfalso; omega) | exact ret_s rfl rfl rfl
end Go.Proofs.YtnllooebophcpaaDoor
