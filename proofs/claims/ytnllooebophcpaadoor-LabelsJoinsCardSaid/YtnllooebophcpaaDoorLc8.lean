/- Package labels: a node is visited. No statement of the seat is proved here. -/
import Derived.Test.YtnllooebophcpaaDoorMc
import Derived.Test.YtnllooebophcpaaDoorSt
set_option maxRecDepth 20000
set_option maxHeartbeats 2000000
namespace Go.Proofs.YtnllooebophcpaaDoor
open Go.RowKit Go.Vcg
theorem kids_take1 {μ : Mem} {ks : List T} {A : Option Addr} {n c : Nat} (h : KR μ ks (.slice A n c)) (hk : 1 ≤ n) : KR μ (ks.take 1) (.slice A 1 c) := by
  cases h with
  | mk _ A c vs hcap hcell hone hsub =>
    have e : (ks.take 1).length = 1 := by simp; omega
    have h0 : ∀ (i : Nat) (t : T), (ks.take 1)[i]? = some t → ks[i]? = some t := fun i t hi => by
      rw [List.getElem?_take] at hi; split at hi <;> simp_all
    have := KR.mk (μ := μ) (ks.take 1) A c vs (by omega) (fun i t hi => hcell i t (h0 i t hi)) (fun i t hi => hone i t (h0 i t hi)) (fun i t hi => hsub i t (h0 i t hi))
    rw [e] at this
    exact this
theorem kids_drop1 {μ : Mem} {ks : List T} {A : Option Addr} {n c : Nat} (h : KR μ ks (.slice A n c)) (hn : 1 ≤ n) : KR μ (ks.drop 1) (.slice (if c = 1 then A else A.map (·.add (1 * 6))) (n - 1) (c - 1)) := by
  cases h with
  | mk _ A c vs hcap hcell hone hsub =>
    have e : (ks.drop 1).length = ks.length - 1 := by simp
    have h0 : ∀ (i : Nat) (t : T), (ks.drop 1)[i]? = some t → ks[1 + i]? = some t := fun i t hi => by simpa [Nat.add_comm] using hi
    have := KR.mk (μ := μ) (ks.drop 1) (if c = 1 then A else A.map (·.add (1 * 6))) (c - 1) (fun i => vs (1 + i)) (by omega) (fun i t hi => ?_) (fun i t hi => hone _ t (h0 i t hi)) (fun i t hi => hsub _ t (h0 i t hi))
    · rw [e] at this
      exact this
    · obtain ⟨a, e, hc⟩ := hcell _ t (h0 i t hi)
      have : 1 + i < ks.length := (List.getElem?_eq_some_iff.1 (h0 i t hi)).1
      rw [if_neg (by omega), e]
      refine ⟨_, rfl, ?_⟩
      rw [add_add', ← Nat.add_mul]
      exact hc
theorem lab_row {μ : Mem} {ls : List LB} {l : LB} {g cap : Nat} (h : Bk.sh (.inr ⟨.slice (some ⟨g, 0, none⟩) (ls.length + 1) cap, 61, 3, ls.length + 1, ls.flatMap encL ++ encL l⟩) μ) (hcap : ls.length + 1 ≤ cap) : LbV μ (ls ++ [l]) (.slice (some ⟨g, 0, none⟩) (ls.length + 1) cap) := by
  obtain ⟨hlen, ⟨h, _⟩ | ⟨g', cap', cur, hv, hμ, hc1, hc2, hcs, htake⟩⟩ := h
  · cases h
  · cases hv
    refine .inr ⟨⟨g, 0, none⟩, cap, by simp, by simpa using hcap, by simp, fun j u hj => ?_⟩
    rw [add_lit]
    refine ⟨cur, _, _, hμ, rfl, ?_⟩
    have h2 : (cur.toList.take ((ls.length + 1) * 3))[j]? = some u := by
      dsimp only at htake
      rw [htake]
      rw [List.flatMap_append] at hj
      simpa using hj
    rw [List.getElem?_take] at h2
    split at h2
    · simpa using h2
    · cases h2
attribute [local irreducible] nodeF chainN loopsF G GC GQ GA GAop GI GCI Calls IntKind.wrap Int.decLt Int.decLe
theorem node_spec : ∀ (n : Nat), NodeC n := by
  intro n
  induction n with
  | zero => intro t u p v s i fb w μ hμ hO hk hn; exact absurd hn (by rw [T.size_eq]; omega)
  | succ n ih =>
    have hK := kids_of_node ih
    intro t u p v s i fb w μ hμ hO hk hn hw hv hf hpl
    have hov := hv.one
    have ho := hk.one
    have hcnt := ids_count hO.diff
    have hts := t.size_kids
    have hkl := len_sizes t.kids
    have hfn := hf.marks
    have hfx := hf.next
    have hfj := hf.jumps
    have hks : ∀ k ∈ t.kids, k.size ≤ n ∧ Wf k := fun k hkm => by
      obtain ⟨j, hj⟩ := List.mem_iff_getElem?.1 hkm
      have := T.size_kid hj
      exact ⟨by omega, hw.kid hj⟩
    obtain ⟨A, c, rfl, hlc, hkid⟩ := hk.form
    obtain ⟨res, hres⟩ : ∃ res, nodeF (n + 1) t p s = res := ⟨_, rfl⟩
    rw [hres]
    unfold nodeF at hres
    have hnum := fun (w2 : World) (μ2 : Mem) (hw2 : MOk μ2 w2) (hO2 : Go.Vcg.Own μ2 [fA fb s.next i] w2) => number_spec fb s.next i w2 μ2 hw2 hO2 (by omega)
    have hlp := fun (w : World) (μc : Mem) (hw : MOk μc w) => loop_spec t (.slice A t.kids.length c) w μc hw ho
    refine call_introM (args := [.pointer (some ⟨fb, 0, none⟩), .agg (encT t (.slice A t.kids.length c)).toArray, .agg #[.int .i64 p.brk, .int .i64 p.again, v]]) Tryd.func21 rfl Tryd.ntmps21 (by simp) hμ hO ?_
    repeat' (first | ((with_reducible show GC _ _ (Code.block 0 _) _ _ _ _); (apply gc_stop)) | refine KK ?_ | refine NB fun b => ?_ | ((refine KB ?_ ?_ <;> intro hp)) | refine KG ?_ | fail)
    rename_i bn
    obtain ⟨bp, hbp⟩ : ∃ x, x = b := ⟨_, rfl⟩
    rw [← hbp]
    clear hbp
    refine gcs (gc_sel (l' := [(0, .pointer (some ⟨fb, 0, none⟩)), (4, .pointer (some ⟨bn, 0, none⟩)), (5, .pointer (some ⟨bp, 0, none⟩))]) (L' := finB fb s i ++ [.inl ⟨bn, 24, 6, idx 0 (encT t (.slice A t.kids.length c))⟩, .inl ⟨bp, 49, 3, idx 0 [.int .i64 p.brk, .int .i64 p.again, v]⟩]) PU PS ?_)
    dsimp only [List.cons_append, List.nil_append]
    by_cases h4 : t.op = 4
    · rw [if_pos h4] at hres
      subst hres
      repeat' (first | refine KK ?_ | refine NB fun b => ?_ | ((refine KB ?_ ?_ <;> intro hp)) | refine KG ?_ | fail)
      all_goals try (exfalso; omega)
      refine gq_sel (l' := []) (L' := finB fb s i) PU PS ?_
      exact out_ok hcnt rfl _ _ (.inl rfl)
    rw [if_neg h4] at hres
    by_cases h15 : t.op = 15 ∨ t.op = 16
    · rw [if_pos h15] at hres
      have hj := fun (w2 : World) (hw2 : MOk μ w2) (hO2 : Go.Vcg.Own μ (finB fb s i) w2) => jump_spec t _ p v s i fb w2 μ hw2 hO2 ho hv (hf.le (by omega)) (by omega)
      cases res with
      | error e =>
        rw [hres] at hj
        repeat' (first | ((with_reducible (first | apply gq_then_panic | apply gq_block_panic))) | refine KO ?_ | (refine CF 34 ?_; (with_reducible apply g_enter_pan 3); exact rfl; ((with_reducible apply e_call3); kernel_rfl; exact rfl; exact rfl; exact rfl); exact rfl; (exact hj)) | refine KI ?_ | refine NB fun b => ?_ | ((refine KB ?_ ?_ <;> intro hp)) | refine KG ?_ | fail)
        all_goals first | (exfalso; omega) | exact gq_pan hcnt (fun w' hg => ⟨rfl, hg⟩)
      | ok s2 =>
        rw [hres] at hj
        repeat' (first | refine KO ?_ | (refine CF 34 ?_; (with_reducible apply g_enter_bor (Ls := finB fb s2) (Post := fun _ _ _ => True) 3); exact rfl; exact rfl; exact rfl; ((with_reducible apply e_call3); kernel_rfl; exact rfl; exact rfl; exact rfl); exact rfl; (exact hj); (rintro v2 μ2 i2 hle2 -); (dsimp only [List.cons_append, List.nil_append])) | refine KI ?_ | refine NB fun b => ?_ | ((refine KB ?_ ?_ <;> intro hp)) | refine KG ?_ | fail)
        all_goals try (exfalso; omega)
        all_goals refine gq_sel (l' := []) (L' := finB fb s2 i2) PU PS ?_
        all_goals exact out_ok hcnt rfl _ _ (.inl rfl)
    rw [if_neg h15] at hres
    by_cases h23 : t.op = 23
    · rw [if_pos h23] at hres
      have hp := hw.pos (.inl h23)
      have hkk : t.kids[0]? = some t.kids[0] := List.getElem?_eq_getElem hp
      have hsz := T.size_kid hkk
      have htk : t.kids.take 1 = [t.kids[0]] := by have := List.take_succ_eq_append_getElem (l := t.kids) (i := 0) hp; simpa using this
      have hkm := hks _ (List.mem_of_getElem? hkk)
      rw [htk] at hres
      clear htk
      generalize t.kids[0] = k at hkk hsz hkm hres
      obtain ⟨ad, x, rfl, hm, hox, hkx⟩ := hkid 0 k hkk
      have hfind := fun (w : World) (μc : Mem) (hw : MOk μc w) (hle : MLe μ μc) => find_spec p v t.s w μc hw (hv.mono hle) (by omega)
      cases hfl : findL p.ls t.s with
      | some l =>
        rw [hfl] at hres hfind
        dsimp only [labV, Option.isSome] at hfind
        subst hres
        repeat' (first | ((with_reducible (first | apply gq_then_panic | apply gq_block_panic))) | refine KO ?_ | ((with_reducible apply g_panic); exact rfl; exact rfl) | ((with_reducible apply F1 35); exact rfl; exact EN; (exact fun w μc hw hse => hfind w μc hw hse.le)) | (refine KV (b := by first | ((with_reducible apply v_iface); exact rfl; exact rfl)) (c := ?_)) | refine KI ?_ | refine NB fun b => ?_ | ((refine KB ?_ ?_ <;> intro hp)) | refine KG ?_ | fail)
        all_goals first | (exfalso; omega) | exact gq_pan hcnt (fun w' hg => ⟨rfl, hg⟩)
      | none =>
      rw [hfl] at hres hfind
      dsimp only [labV, Option.isSome] at hfind hres
      rw [kidsF_single] at hres
      repeat' (first | ((with_reducible show GC _ _ (Code.seq (Code.region 8 _ _) _) _ _ _ _); (apply gc_stop)) | refine KO ?_ | ((with_reducible apply F1 35); exact rfl; exact EN; (exact fun w μc hw hse => hfind w μc hw hse.le)) | refine KI ?_ | refine NB fun b => ?_ | ((refine KB ?_ ?_ <;> intro hp)) | refine KG ?_ | fail)
      all_goals try (exfalso; omega)
      refine gcs (gc_sel (l' := [(0, .pointer (some ⟨fb, 0, none⟩)), (4, .pointer (some ⟨bn, 0, none⟩)), (5, .pointer (some ⟨bp, 0, none⟩))]) (L' := finB fb s i ++ [.inl ⟨bn, 24, 6, idx 0 (encT t (.slice (some ad) t.kids.length c))⟩, .inl ⟨bp, 49, 3, idx 0 [.int .i64 p.brk, .int .i64 p.again, v]⟩]) PU PS ?_)
      dsimp only [List.cons_append, List.nil_append]
      refine gc_join (ι := Mem × Nat) (fun y => MLe μ y.1) (fun y => y.1) (fun y => [(0, .pointer (some ⟨fb, 0, none⟩)), (4, .pointer (some ⟨bn, 0, none⟩)), (5, .pointer (some ⟨bp, 0, none⟩)), (8, .pointer (some ⟨y.2, 0, none⟩))]) (fun y => [fA fb (s.next + 1) i, .inr ⟨i.1, 33, 3, s.marks.length, s.marks.flatMap encM⟩, .inr ⟨i.2, 35, 2, s.jumps.length, s.jumps.flatMap encJ⟩, .inl ⟨y.2, 61, 3, idx 0 [.string t.s, .int .i64 s.next, .int .i64 (-1)]⟩, .inl ⟨bn, 24, 6, idx 0 (encT t (.slice (some ad) t.kids.length c))⟩, .inl ⟨bp, 49, 3, idx 0 [.int .i64 p.brk, .int .i64 p.again, v]⟩]) ?_ ?_
      · refine gc_draw 7 _ (by kernel_rfl) rfl (List.Sublist.cons _ (List.Sublist.cons _ (List.Sublist.cons _ (List.Sublist.cons_cons _ (List.Sublist.cons_cons _ (List.nil_sublist _)))))) ?_
        all_goals refine DD 0 ?_
        all_goals refine DD 1 ?_
        all_goals refine DD 2 ?_
        refine ga_all2 3 5 (by kernel_rfl) ?dr5_3 ?dr5_5
        case' dr5_3 =>
          (first | (refine D5 ?_; (first | ((with_reducible apply g_enter_bor 1); exact rfl; exact rfl; exact rfl; ((with_reducible apply e_call1); kernel_rfl; exact rfl); exact rfl; (exact fun w2 hw2 hO2 => hnum w2 _ hw2 hO2); (rintro v2 μ2 ⟨⟩ hle2 rfl); (dsimp only [List.cons_append, List.nil_append])) | ((with_reducible apply g_pull_1); (with_reducible apply g_enter_bor 1); exact rfl; exact rfl; exact rfl; ((with_reducible apply e_call1); kernel_rfl; exact rfl); exact rfl; (exact fun w2 hw2 hO2 => hnum w2 _ hw2 hO2); (rintro v2 μ2 ⟨⟩ hle2 rfl); (dsimp only [List.cons_append, List.nil_append]))); refine D9 ?_))
          all_goals refine DD 4 ?_
          all_goals (first | (refine D3 5 ?_; refine D5 ?_; refine NB fun b => ?_; refine D9 ?_))
          all_goals (first | (refine D3 6 ?_; refine D5 ?_; refine Y0 ?_; refine D9 ?_))
          all_goals refine D8 ?_
        case' dr5_5 =>
          (first | (refine D5 ?_; refine NB fun b => ?_; refine D9 ?_))
          all_goals (first | (refine D3 3 ?_; refine D5 ?_; (first | ((with_reducible apply g_enter_bor 1); exact rfl; exact rfl; exact rfl; ((with_reducible apply e_call1); kernel_rfl; exact rfl); exact rfl; (exact fun w2 hw2 hO2 => hnum w2 _ hw2 hO2); (rintro v2 μ2 ⟨⟩ hle2 rfl); (dsimp only [List.cons_append, List.nil_append])) | ((with_reducible apply g_pull_1); (with_reducible apply g_enter_bor 1); exact rfl; exact rfl; exact rfl; ((with_reducible apply e_call1); kernel_rfl; exact rfl); exact rfl; (exact fun w2 hw2 hO2 => hnum w2 _ hw2 hO2); (rintro v2 μ2 ⟨⟩ hle2 rfl); (dsimp only [List.cons_append, List.nil_append]))); refine D9 ?_))
          all_goals refine DD 4 ?_
          all_goals (first | (refine D3 6 ?_; refine D5 ?_; refine Y0 ?_; refine D9 ?_))
          all_goals refine D8 ?_
        all_goals exact J1 (μ2, b) (by first | assumption | (apply MLe.trans <;> assumption) | (refine MLe.trans ?_ (by assumption); assumption))
      rintro ⟨μ1, bl⟩ hle1
      dsimp only at hle1 ⊢
      refine gc_join (ι := VV) (fun _ => True) (fun _ => μ1) (fun _ => [(0, .pointer (some ⟨fb, 0, none⟩)), (4, .pointer (some ⟨bn, 0, none⟩)), (5, .pointer (some ⟨bp, 0, none⟩)), (8, .pointer (some ⟨bl, 0, none⟩))]) (fun i2 => finB fb (s.mark t.at') i2 ++ [.inl ⟨bl, 61, 3, idx 0 [.string t.s, .int .i64 s.next, .int .i64 (-1)]⟩, .inl ⟨bn, 24, 6, idx 0 (encT t (.slice (some ad) t.kids.length c))⟩, .inl ⟨bp, 49, 3, idx 0 [.int .i64 p.brk, .int .i64 p.again, v]⟩]) ?_ ?_
      · refine gc_draw 15 _ (by kernel_rfl) rfl (List.Sublist.cons _ (List.Sublist.cons _ (List.Sublist.cons _ (List.Sublist.cons_cons _ (List.Sublist.cons_cons _ (List.Sublist.cons _ (List.nil_sublist _))))))) ?_
        all_goals refine DD 0 ?_
        all_goals refine DD 1 ?_
        all_goals refine DD 2 ?_
        all_goals refine DD 3 ?_
        all_goals refine DD 5 ?_
        all_goals refine DD 6 ?_
        all_goals refine DD 7 ?_
        all_goals refine DD 8 ?_
        all_goals refine DD 9 ?_
        refine ga_all2 4 10 (by kernel_rfl) ?dr6_4 ?dr6_10
        case' dr6_4 =>
          (first | ((with_reducible apply gaop_val); exact rfl; exact rfl; exact rfl; exact rfl; (first | ((with_reducible apply pv_sound); exact rfl) | ((with_reducible apply v_ld); exact rfl; (repeat first | with_reducible exact inb_hd | with_reducible apply inb_tl); exact rfl))))
          all_goals (first | (refine D3 10 ?_; refine D5 ?_; refine NB fun b => ?_; refine D9 ?_))
          all_goals (first | (refine D3 11 ?_; refine D5 ?_; (first | ((with_reducible apply g_ap); exact rfl; exact rfl; exact rfl; (repeat first | with_reducible exact rowup_hd | with_reducible apply rowup_tl); (iterate 6 exact rfl); (first | ((with_reducible apply src_in); exact rfl; (repeat first | with_reducible exact inb_hd | with_reducible apply inb_tl); exact rfl)); (first | exact rfl | omega | simp); (first | assumption | (exact ones_mem (by (repeat first | with_reducible exact ones_nil | ((with_reducible apply ones_cons); (first | exact rfl | assumption))))) | simp [Value.oneCell']); omega; omega; intro v; (first | ((with_reducible apply g_rowForm 1); exact rfl; omega) | ((with_reducible apply g_rowForm 2); exact rfl; omega) | ((with_reducible apply g_rowForm 3); exact rfl; omega)); (rintro g cap rfl hcap)) | ((with_reducible apply g_append0); (iterate 9 exact rfl); (first | ((with_reducible apply src_in); exact rfl; (repeat first | with_reducible exact inb_hd | with_reducible apply inb_tl); exact rfl)); (first | exact rfl | omega | simp); (first | assumption | (exact ones_mem (by (repeat first | with_reducible exact ones_nil | ((with_reducible apply ones_cons); (first | exact rfl | assumption))))) | simp [Value.oneCell']); omega; omega; intro v; (first | ((with_reducible apply g_rowForm 1); exact rfl; omega) | ((with_reducible apply g_rowForm 2); exact rfl; omega) | ((with_reducible apply g_rowForm 3); exact rfl; omega)); (rintro g cap rfl hcap))); refine D9 ?_))
          all_goals refine DD 12 ?_
          all_goals refine DD 13 ?_
          all_goals (first | (refine D3 14 ?_; refine D5 ?_; refine Y0 ?_; refine D9 ?_))
          all_goals refine D8 ?_
        case' dr6_10 =>
          (first | (refine D5 ?_; refine NB fun b => ?_; refine D9 ?_))
          all_goals (first | (refine D3 4 ?_; (with_reducible apply gaop_val); exact rfl; exact rfl; exact rfl; exact rfl; (first | ((with_reducible apply pv_sound); exact rfl) | ((with_reducible apply v_ld); exact rfl; (repeat first | with_reducible exact inb_hd | with_reducible apply inb_tl); exact rfl))))
          all_goals (first | (refine D3 11 ?_; refine D5 ?_; (first | ((with_reducible apply g_ap); exact rfl; exact rfl; exact rfl; (repeat first | with_reducible exact rowup_hd | with_reducible apply rowup_tl); (iterate 6 exact rfl); (first | ((with_reducible apply src_in); exact rfl; (repeat first | with_reducible exact inb_hd | with_reducible apply inb_tl); exact rfl)); (first | exact rfl | omega | simp); (first | assumption | (exact ones_mem (by (repeat first | with_reducible exact ones_nil | ((with_reducible apply ones_cons); (first | exact rfl | assumption))))) | simp [Value.oneCell']); omega; omega; intro v; (first | ((with_reducible apply g_rowForm 1); exact rfl; omega) | ((with_reducible apply g_rowForm 2); exact rfl; omega) | ((with_reducible apply g_rowForm 3); exact rfl; omega)); (rintro g cap rfl hcap)) | ((with_reducible apply g_append0); (iterate 9 exact rfl); (first | ((with_reducible apply src_in); exact rfl; (repeat first | with_reducible exact inb_hd | with_reducible apply inb_tl); exact rfl)); (first | exact rfl | omega | simp); (first | assumption | (exact ones_mem (by (repeat first | with_reducible exact ones_nil | ((with_reducible apply ones_cons); (first | exact rfl | assumption))))) | simp [Value.oneCell']); omega; omega; intro v; (first | ((with_reducible apply g_rowForm 1); exact rfl; omega) | ((with_reducible apply g_rowForm 2); exact rfl; omega) | ((with_reducible apply g_rowForm 3); exact rfl; omega)); (rintro g cap rfl hcap))); refine D9 ?_))
          all_goals refine DD 12 ?_
          all_goals refine DD 13 ?_
          all_goals (first | (refine D3 14 ?_; refine D5 ?_; refine Y0 ?_; refine D9 ?_))
          all_goals refine D8 ?_
        all_goals refine gq_rowEq (n' := (s.mark t.at').marks.length) (xs' := (s.mark t.at').marks.flatMap encM) 2 rfl (by simp [LS.mark]) (by simp only [LS.mark, List.flatMap_append]; rfl) ?_
        all_goals exact J1 (.slice (some ⟨g, 0, none⟩) (s.marks.length + 1) cap, i.2) trivial
      rintro i2 -
      dsimp only [List.cons_append, List.nil_append]
      have hlps := fun (w : World) (μc : Mem) (hw2 : MOk μc w) (hle : MLe μ μc) => loops_spec (n + 1) t _ w μc hw2 (hk.mono hle) hn hw
      have hah := fun (w2 : World) (hw2 : MOk μ1 w2) (hO2 : Go.Vcg.Own μ1 [fA fb (s.mark t.at').next i2] w2) => ahead_spec n t _ fb (s.next + 1) i2 w2 μ1 hw2 hO2 (hk.mono hle1) h23 hn hw (by omega)
      refine gc_join (ι := Mem) (fun y => MLe μ1 y) (fun y => y) (fun _ => [(0, .pointer (some ⟨fb, 0, none⟩)), (4, .pointer (some ⟨bn, 0, none⟩)), (5, .pointer (some ⟨bp, 0, none⟩)), (8, .pointer (some ⟨bl, 0, none⟩))]) (fun _ => finB fb (s.mark t.at') i2 ++ [.inl ⟨bl, 61, 3, idx 0 (encL (labOf n t s))⟩, .inl ⟨bn, 24, 6, idx 0 (encT t (.slice (some ad) t.kids.length c))⟩, .inl ⟨bp, 49, 3, idx 0 [.int .i64 p.brk, .int .i64 p.again, v]⟩]) ?_ ?_
      · cases hlq : loopsF (n + 1) t with
        | true =>
          rw [hlq] at hlps
          have hlo : labOf n t s = ⟨t.s, s.next, ((s.next + 1 + chainN (n + 1) t : Nat) : Int)⟩ := by unfold labOf; rw [if_pos hlq]
          rw [hlo]
          repeat' (first | refine KO ?_ | ((with_reducible apply F1 37); exact rfl; exact EN; (exact fun w μc hw hse => hlps w μc hw (hle1.trans hse.le))) | (refine CF 38 ?_; (with_reducible apply g_enter_bor 1); exact rfl; exact rfl; exact rfl; ((with_reducible apply e_call2); kernel_rfl; exact rfl; exact rfl); exact rfl; (exact hah); (rintro v2 μ2 ⟨⟩ hle2 rfl); (dsimp only [List.cons_append, List.nil_append])) | refine KI ?_ | refine NB fun b => ?_ | ((refine KB ?_ ?_ <;> intro hp)) | refine KG ?_ | fail)
          all_goals exact J1 μ2 hle2
        | false =>
          rw [hlq] at hlps
          have hlo : labOf n t s = ⟨t.s, s.next, -1⟩ := by unfold labOf; rw [if_neg (by rw [hlq]; simp)]
          rw [hlo]
          repeat' (first | refine KO ?_ | ((with_reducible apply F1 37); exact rfl; exact EN; (exact fun w μc hw hse => hlps w μc hw (hle1.trans hse.le))) | refine KI ?_ | refine NB fun b => ?_ | ((refine KB ?_ ?_ <;> intro hp)) | refine KG ?_ | fail)
          all_goals exact J1 μ1 (MLe.refl _)
      rintro μ3 hle3
      dsimp only [List.cons_append, List.nil_append]
      have hle13 := hle1.trans hle3
      refine gc_join (ι := Mem × Nat × Nat) (fun y => MLe μ3 y.1 ∧ LbV y.1 (p.ls ++ [labOf n t s]) (.slice (some ⟨y.2.1, 0, none⟩) (p.ls.length + 1) y.2.2)) (fun y => y.1) (fun _ => [(0, .pointer (some ⟨fb, 0, none⟩)), (4, .pointer (some ⟨bn, 0, none⟩)), (5, .pointer (some ⟨bp, 0, none⟩))]) (fun y => finB fb (s.mark t.at') i2 ++ [.inl ⟨bn, 24, 6, idx 0 (encT t (.slice (some ad) t.kids.length c))⟩, .inl ⟨bp, 49, 3, idx 0 [.int .i64 p.brk, .int .i64 p.again, .slice (some ⟨y.2.1, 0, none⟩) (p.ls.length + 1) y.2.2]⟩]) ?_ ?_
      · obtain ⟨lb, hlb⟩ : ∃ lb, lb = labOf n t s := ⟨_, rfl⟩
        rw [← hlb]
        have hv3 := hv.mono hle13
        rcases id hv3 with ⟨hnil, rfl⟩ | ⟨al, cl, rfl, hlc2, hlpos, hml⟩
        · rw [hnil]
          refine gc_draw 8 _ (by kernel_rfl) rfl (List.Sublist.cons _ (List.Sublist.cons _ (List.Sublist.cons _ (List.Sublist.cons_cons _ (List.Sublist.cons _ (List.Sublist.cons _ (List.nil_sublist _))))))) ?_
          all_goals refine DD 0 ?_
          all_goals refine DD 3 ?_
          refine ga_all2 1 4 (by kernel_rfl) ?dr7_1 ?dr7_4
          case' dr7_1 =>
            (first | ((with_reducible apply gaop_val); exact rfl; exact rfl; exact rfl; exact rfl; (first | ((with_reducible apply pv_sound); exact rfl) | ((with_reducible apply v_ld); exact rfl; (repeat first | with_reducible exact inb_hd | with_reducible apply inb_tl); exact rfl))))
            refine ga_all2 2 4 (by kernel_rfl) ?dr8_2 ?dr8_4
            case' dr8_2 =>
              (first | (refine D5 ?_; (with_reducible apply F1 39); exact rfl; exact EN; (exact fun w μc hw hse => clip_spec p.ls _ w μc hw (hv3.mono hse.le) (.slice none 0 0) (.inl ⟨rfl, rfl⟩)); refine D9 ?_))
              all_goals (first | (refine D3 4 ?_; refine D5 ?_; refine NB fun b => ?_; refine D9 ?_))
              all_goals (first | (refine D3 5 ?_; refine D5 ?_; (first | ((with_reducible apply g_ap); exact rfl; exact rfl; exact rfl; (repeat first | with_reducible exact rowup_hd | with_reducible apply rowup_tl); (iterate 6 exact rfl); (first | ((with_reducible apply src_in); exact rfl; (repeat first | with_reducible exact inb_hd | with_reducible apply inb_tl); exact rfl)); (first | exact rfl | omega | simp); (first | assumption | (exact ones_mem (by (repeat first | with_reducible exact ones_nil | ((with_reducible apply ones_cons); (first | exact rfl | assumption))))) | simp [Value.oneCell']); omega; omega; intro v; ((with_reducible apply g_rowForm 0); exact rfl; omega); (rintro g cap rfl hcap)) | ((with_reducible apply g_append0); (iterate 9 exact rfl); (first | ((with_reducible apply src_in); exact rfl; (repeat first | with_reducible exact inb_hd | with_reducible apply inb_tl); exact rfl)); (first | exact rfl | omega | simp); (first | assumption | (exact ones_mem (by (repeat first | with_reducible exact ones_nil | ((with_reducible apply ones_cons); (first | exact rfl | assumption))))) | simp [Value.oneCell']); omega; omega; intro v; ((with_reducible apply g_rowForm 0); exact rfl; omega); (rintro g cap rfl hcap))); refine D9 ?_))
              all_goals refine DD 6 ?_
              all_goals (first | (refine D3 7 ?_; refine D5 ?_; refine Y0 ?_; refine D9 ?_))
              all_goals refine D8 ?_
            case' dr8_4 =>
              (first | (refine D5 ?_; refine NB fun b => ?_; refine D9 ?_))
              all_goals (first | (refine D3 2 ?_; refine D5 ?_; (with_reducible apply F1 39); exact rfl; exact EN; (exact fun w μc hw hse => clip_spec p.ls _ w μc hw (hv3.mono hse.le) (.slice none 0 0) (.inl ⟨rfl, rfl⟩)); refine D9 ?_))
              all_goals (first | (refine D3 5 ?_; refine D5 ?_; (first | ((with_reducible apply g_ap); exact rfl; exact rfl; exact rfl; (repeat first | with_reducible exact rowup_hd | with_reducible apply rowup_tl); (iterate 6 exact rfl); (first | ((with_reducible apply src_in); exact rfl; (repeat first | with_reducible exact inb_hd | with_reducible apply inb_tl); exact rfl)); (first | exact rfl | omega | simp); (first | assumption | (exact ones_mem (by (repeat first | with_reducible exact ones_nil | ((with_reducible apply ones_cons); (first | exact rfl | assumption))))) | simp [Value.oneCell']); omega; omega; intro v; ((with_reducible apply g_rowForm 0); exact rfl; omega); (rintro g cap rfl hcap)) | ((with_reducible apply g_append0); (iterate 9 exact rfl); (first | ((with_reducible apply src_in); exact rfl; (repeat first | with_reducible exact inb_hd | with_reducible apply inb_tl); exact rfl)); (first | exact rfl | omega | simp); (first | assumption | (exact ones_mem (by (repeat first | with_reducible exact ones_nil | ((with_reducible apply ones_cons); (first | exact rfl | assumption))))) | simp [Value.oneCell']); omega; omega; intro v; ((with_reducible apply g_rowForm 0); exact rfl; omega); (rintro g cap rfl hcap))); refine D9 ?_))
              all_goals refine DD 6 ?_
              all_goals (first | (refine D3 7 ?_; refine D5 ?_; refine Y0 ?_; refine D9 ?_))
              all_goals refine D8 ?_
          case' dr7_4 =>
            (first | (refine D5 ?_; refine NB fun b => ?_; refine D9 ?_))
            all_goals (first | (refine D3 1 ?_; (with_reducible apply gaop_val); exact rfl; exact rfl; exact rfl; exact rfl; (first | ((with_reducible apply pv_sound); exact rfl) | ((with_reducible apply v_ld); exact rfl; (repeat first | with_reducible exact inb_hd | with_reducible apply inb_tl); exact rfl))))
            all_goals (first | (refine D3 2 ?_; refine D5 ?_; (with_reducible apply F1 39); exact rfl; exact EN; (exact fun w μc hw hse => clip_spec p.ls _ w μc hw (hv3.mono hse.le) (.slice none 0 0) (.inl ⟨rfl, rfl⟩)); refine D9 ?_))
            all_goals (first | (refine D3 5 ?_; refine D5 ?_; (first | ((with_reducible apply g_ap); exact rfl; exact rfl; exact rfl; (repeat first | with_reducible exact rowup_hd | with_reducible apply rowup_tl); (iterate 6 exact rfl); (first | ((with_reducible apply src_in); exact rfl; (repeat first | with_reducible exact inb_hd | with_reducible apply inb_tl); exact rfl)); (first | exact rfl | omega | simp); (first | assumption | (exact ones_mem (by (repeat first | with_reducible exact ones_nil | ((with_reducible apply ones_cons); (first | exact rfl | assumption))))) | simp [Value.oneCell']); omega; omega; intro v; ((with_reducible apply g_rowForm 0); exact rfl; omega); (rintro g cap rfl hcap)) | ((with_reducible apply g_append0); (iterate 9 exact rfl); (first | ((with_reducible apply src_in); exact rfl; (repeat first | with_reducible exact inb_hd | with_reducible apply inb_tl); exact rfl)); (first | exact rfl | omega | simp); (first | assumption | (exact ones_mem (by (repeat first | with_reducible exact ones_nil | ((with_reducible apply ones_cons); (first | exact rfl | assumption))))) | simp [Value.oneCell']); omega; omega; intro v; ((with_reducible apply g_rowForm 0); exact rfl; omega); (rintro g cap rfl hcap))); refine D9 ?_))
            all_goals refine DD 6 ?_
            all_goals (first | (refine D3 7 ?_; refine D5 ?_; refine Y0 ?_; refine D9 ?_))
            all_goals refine D8 ?_
          all_goals refine gq_share_0 rfl ?_
          all_goals intro μ4 hle4 hsh4
          all_goals exact J1 (μ4, g, cap) ⟨hle4, lab_row (ls := []) hsh4 hcap⟩
        · refine gc_draw 8 _ (by kernel_rfl) rfl (List.Sublist.cons _ (List.Sublist.cons _ (List.Sublist.cons _ (List.Sublist.cons_cons _ (List.Sublist.cons _ (List.Sublist.cons _ (List.nil_sublist _))))))) ?_
          all_goals refine DD 0 ?_
          all_goals refine DD 3 ?_
          refine ga_all2 1 4 (by kernel_rfl) ?dr9_1 ?dr9_4
          case' dr9_1 =>
            (first | ((with_reducible apply gaop_val); exact rfl; exact rfl; exact rfl; exact rfl; (first | ((with_reducible apply pv_sound); exact rfl) | ((with_reducible apply v_ld); exact rfl; (repeat first | with_reducible exact inb_hd | with_reducible apply inb_tl); exact rfl))))
            refine ga_all2 2 4 (by kernel_rfl) ?dr10_2 ?dr10_4
            case' dr10_2 =>
              (first | (refine D5 ?_; (with_reducible apply F1 39); exact rfl; exact EN; (exact fun w μc hw hse => clip_spec p.ls _ w μc hw (hv3.mono hse.le) (.slice (some al) p.ls.length p.ls.length) (.inr ⟨al, cl, rfl, rfl⟩)); refine D9 ?_))
              all_goals (first | (refine D3 4 ?_; refine D5 ?_; refine NB fun b => ?_; refine D9 ?_))
              all_goals (first | (refine D3 5 ?_; refine D5 ?_; (with_reducible apply g_append_full (olds := p.ls.flatMap encL) (ad := al)); exact rfl; exact rfl; exact rfl; exact rfl; exact rfl; exact rfl; exact rfl; exact rfl; exact rfl; (exact flatL_len _); (exact hml); ((with_reducible apply src_in); exact rfl; (repeat first | with_reducible exact inb_hd | with_reducible apply inb_tl); exact rfl); (first | exact rfl | simp); omega; omega; omega; (intro v); ((with_reducible apply g_rowForm 0); exact rfl; omega); (rintro g cap rfl hcap); refine D9 ?_))
              all_goals refine DD 6 ?_
              all_goals (first | (refine D3 7 ?_; refine D5 ?_; refine Y0 ?_; refine D9 ?_))
              all_goals refine D8 ?_
            case' dr10_4 =>
              (first | (refine D5 ?_; refine NB fun b => ?_; refine D9 ?_))
              all_goals (first | (refine D3 2 ?_; refine D5 ?_; (with_reducible apply F1 39); exact rfl; exact EN; (exact fun w μc hw hse => clip_spec p.ls _ w μc hw (hv3.mono hse.le) (.slice (some al) p.ls.length p.ls.length) (.inr ⟨al, cl, rfl, rfl⟩)); refine D9 ?_))
              all_goals (first | (refine D3 5 ?_; refine D5 ?_; (with_reducible apply g_append_full (olds := p.ls.flatMap encL) (ad := al)); exact rfl; exact rfl; exact rfl; exact rfl; exact rfl; exact rfl; exact rfl; exact rfl; exact rfl; (exact flatL_len _); (exact hml); ((with_reducible apply src_in); exact rfl; (repeat first | with_reducible exact inb_hd | with_reducible apply inb_tl); exact rfl); (first | exact rfl | simp); omega; omega; omega; (intro v); ((with_reducible apply g_rowForm 0); exact rfl; omega); (rintro g cap rfl hcap); refine D9 ?_))
              all_goals refine DD 6 ?_
              all_goals (first | (refine D3 7 ?_; refine D5 ?_; refine Y0 ?_; refine D9 ?_))
              all_goals refine D8 ?_
          case' dr9_4 =>
            (first | (refine D5 ?_; refine NB fun b => ?_; refine D9 ?_))
            all_goals (first | (refine D3 1 ?_; (with_reducible apply gaop_val); exact rfl; exact rfl; exact rfl; exact rfl; (first | ((with_reducible apply pv_sound); exact rfl) | ((with_reducible apply v_ld); exact rfl; (repeat first | with_reducible exact inb_hd | with_reducible apply inb_tl); exact rfl))))
            all_goals (first | (refine D3 2 ?_; refine D5 ?_; (with_reducible apply F1 39); exact rfl; exact EN; (exact fun w μc hw hse => clip_spec p.ls _ w μc hw (hv3.mono hse.le) (.slice (some al) p.ls.length p.ls.length) (.inr ⟨al, cl, rfl, rfl⟩)); refine D9 ?_))
            all_goals (first | (refine D3 5 ?_; refine D5 ?_; (with_reducible apply g_append_full (olds := p.ls.flatMap encL) (ad := al)); exact rfl; exact rfl; exact rfl; exact rfl; exact rfl; exact rfl; exact rfl; exact rfl; exact rfl; (exact flatL_len _); (exact hml); ((with_reducible apply src_in); exact rfl; (repeat first | with_reducible exact inb_hd | with_reducible apply inb_tl); exact rfl); (first | exact rfl | simp); omega; omega; omega; (intro v); ((with_reducible apply g_rowForm 0); exact rfl; omega); (rintro g cap rfl hcap); refine D9 ?_))
            all_goals refine DD 6 ?_
            all_goals (first | (refine D3 7 ?_; refine D5 ?_; refine Y0 ?_; refine D9 ?_))
            all_goals refine D8 ?_
          all_goals refine gq_share_0 rfl ?_
          all_goals intro μ4 hle4 hsh4
          all_goals exact J1 (μ4, g, cap) ⟨hle4, lab_row hsh4 hcap⟩
      rintro ⟨μ4, g, cap⟩ ⟨hle4, hv4⟩
      dsimp only [List.cons_append, List.nil_append] at hle4 hv4 ⊢
      have hle14 := hle13.trans hle4
      have hm4 := hm.mono hle14
      have hfm : Fits (s.mark t.at') k.size := Fits.grew (hf.le (show 1 + k.size ≤ t.size by omega)) (mark_grew s t.at')
      have hc := fun (w2 : World) (hw2 : MOk μ4 w2) (hO2 : Go.Vcg.Own μ4 (finB fb (s.mark t.at') i2) w2) => ih k x ⟨p.brk, p.again, p.ls ++ [labOf n t s]⟩ _ (s.mark t.at') i2 fb w2 μ4 hw2 hO2 (hkx.mono hle14) hkm.1 hkm.2 hv4 hfm (by simp only [List.length_append, List.length_cons, List.length_nil]; omega)
      rw [hres] at hc
      refine gc_seq ?_
      cases res with
      | error e =>
        refine gc_draw 7 _ (by kernel_rfl) rfl (List.Sublist.cons _ (List.Sublist.cons _ (List.Sublist.cons _ (List.Sublist.cons_cons _ (List.Sublist.cons_cons _ (List.nil_sublist _)))))) ?_
        all_goals refine DD 0 ?_
        all_goals (first | refine D1 1 ?_ | (refine DV (k := 1) (b := by first | exact U1 0 | exact U4 hm4) (c := ?_)) | refine DD 1 ?_ | fail)
        all_goals (first | refine D1 2 ?_ | (refine DV (k := 2) (b := by first | exact U1 0 | exact U4 hm4) (c := ?_)) | (refine D3 2 (DW (b := by first | exact U1 0 | exact U4 hm4) (c := ?_))) | refine DD 2 ?_ | fail)
        all_goals (first | refine D1 3 ?_ | (refine DV (k := 3) (b := by first | exact U1 0 | exact U4 hm4) (c := ?_)) | refine DD 3 ?_ | fail)
        all_goals (first | refine D1 4 ?_ | (refine DV (k := 4) (b := by first | exact U1 0 | exact U4 hm4) (c := ?_)) | (refine D3 4 (DW (b := by first | exact U1 0 | exact U4 hm4) (c := ?_))) | refine DD 4 ?_ | fail)
        all_goals (first | refine D1 5 ?_ | (refine DV (k := 5) (b := by first | exact U1 0 | exact U4 hm4) (c := ?_)) | (refine D3 5 (DW (b := by first | exact U1 0 | exact U4 hm4) (c := ?_))) | refine DD 5 ?_ | fail)
        all_goals (first | (refine D3 6 ?_; refine D5 ?_; ((with_reducible apply g_enter_pan 3); exact rfl; ((with_reducible apply e_call3); kernel_rfl; exact rfl; exact rfl; exact rfl); exact rfl; (exact hc); refine qa_panic ?_; (repeat (with_reducible (first | apply gq_then_panic | apply gq_block_panic))); exact gq_pan hcnt (fun w' hg => ⟨rfl, hg⟩))))
        all_goals refine D8 ?_
      | ok s2 =>
        refine gc_draw 7 _ (by kernel_rfl) rfl (List.Sublist.cons _ (List.Sublist.cons _ (List.Sublist.cons _ (List.Sublist.cons_cons _ (List.Sublist.cons_cons _ (List.nil_sublist _)))))) ?_
        all_goals refine DD 0 ?_
        all_goals (first | refine D1 1 ?_ | (refine DV (k := 1) (b := by first | exact U1 0 | exact U4 hm4) (c := ?_)) | refine DD 1 ?_ | fail)
        all_goals (first | refine D1 2 ?_ | (refine DV (k := 2) (b := by first | exact U1 0 | exact U4 hm4) (c := ?_)) | (refine D3 2 (DW (b := by first | exact U1 0 | exact U4 hm4) (c := ?_))) | refine DD 2 ?_ | fail)
        all_goals (first | refine D1 3 ?_ | (refine DV (k := 3) (b := by first | exact U1 0 | exact U4 hm4) (c := ?_)) | refine DD 3 ?_ | fail)
        all_goals (first | refine D1 4 ?_ | (refine DV (k := 4) (b := by first | exact U1 0 | exact U4 hm4) (c := ?_)) | (refine D3 4 (DW (b := by first | exact U1 0 | exact U4 hm4) (c := ?_))) | refine DD 4 ?_ | fail)
        all_goals (first | refine D1 5 ?_ | (refine DV (k := 5) (b := by first | exact U1 0 | exact U4 hm4) (c := ?_)) | (refine D3 5 (DW (b := by first | exact U1 0 | exact U4 hm4) (c := ?_))) | refine DD 5 ?_ | fail)
        all_goals (first | (refine D3 6 ?_; refine D5 ?_; (with_reducible apply g_enter_bor (Ls := finB fb s2) (Post := fun _ _ _ => True) 3); exact rfl; exact rfl; exact rfl; ((with_reducible apply e_call3); kernel_rfl; exact rfl; exact rfl; exact rfl); exact rfl; (exact hc); (rintro v2 μ5 i5 hle5 -); (dsimp only [List.cons_append, List.nil_append]); refine D9 ?_))
        all_goals refine D8 ?_
        all_goals repeat' (first | refine KK ?_ | refine NB fun b => ?_ | ((refine KB ?_ ?_ <;> intro hp)) | refine KG ?_ | fail)
        all_goals refine gq_sel (l' := []) (L' := finB fb s2 i5) PU PS ?_
        all_goals exact out_ok hcnt rfl _ _ (.inl rfl)
    rw [if_neg h23] at hres
    by_cases h21 : t.op = 21
    · rw [if_pos h21] at hres
      have hp := hw.pos (.inr h21)
      have hkt := kids_take1 hk hp
      have hkd := kids_drop1 hk hp
      have hst := szs_take_drop t.kids 1
      have hk1 := fun (w2 : World) (hw2 : MOk μ w2) (hO2 : Go.Vcg.Own μ (finB fb s i) w2) => hK (t.kids.take 1) _ p v s i fb w2 μ hw2 hO2 hkt (fun k hk => hks k (List.mem_of_mem_take hk)) hv (hf.le (by omega)) (by omega)
      cases hq1 : kidsF (nodeF n) (t.kids.take 1) p s with
      | error e =>
        rw [hq1] at hres hk1
        dsimp only at hres
        subst hres
        repeat' (first | ((with_reducible show GC _ _ (Code.region 15 _ _) _ _ _ _); (apply gc_stop)) | refine KK ?_ | refine NB fun b => ?_ | ((refine KB ?_ ?_ <;> intro hp)) | refine KG ?_ | fail)
        all_goals try (exfalso; omega)
        refine gcs ?_
        refine gc_draw 6 _ (by kernel_rfl) rfl (List.Sublist.cons _ (List.Sublist.cons _ (List.Sublist.cons _ (List.Sublist.cons_cons _ (List.Sublist.cons_cons _ (List.nil_sublist _)))))) ?_
        all_goals refine DD 0 ?_
        all_goals (first | refine D1 1 ?_ | (refine DV (k := 1) (b := by first | ((with_reducible apply v_slice_hi 1); exact rfl; exact rfl; exact rfl; exact rfl; exact rfl; omega)) (c := ?_)) | refine DD 1 ?_ | fail)
        all_goals (first | refine D1 2 ?_ | (refine DV (k := 2) (b := by first | ((with_reducible apply v_slice_hi 1); exact rfl; exact rfl; exact rfl; exact rfl; exact rfl; omega)) (c := ?_)) | (refine D3 2 (DW (b := by first | ((with_reducible apply v_slice_hi 1); exact rfl; exact rfl; exact rfl; exact rfl; exact rfl; omega)) (c := ?_))) | refine DD 2 ?_ | fail)
        all_goals (first | refine D1 3 ?_ | (refine DV (k := 3) (b := by first | ((with_reducible apply v_slice_hi 1); exact rfl; exact rfl; exact rfl; exact rfl; exact rfl; omega)) (c := ?_)) | refine DD 3 ?_ | fail)
        all_goals (first | refine D1 4 ?_ | (refine DV (k := 4) (b := by first | ((with_reducible apply v_slice_hi 1); exact rfl; exact rfl; exact rfl; exact rfl; exact rfl; omega)) (c := ?_)) | (refine D3 4 (DW (b := by first | ((with_reducible apply v_slice_hi 1); exact rfl; exact rfl; exact rfl; exact rfl; exact rfl; omega)) (c := ?_))) | refine DD 4 ?_ | fail)
        all_goals (first | (refine D3 5 ?_; refine D5 ?_; ((with_reducible apply g_enter_pan 3); exact rfl; ((with_reducible apply e_call3); kernel_rfl; exact rfl; exact rfl; exact rfl); exact rfl; (exact hk1); refine qa_panic ?_; (repeat (with_reducible (first | apply gq_then_panic | apply gq_block_panic))); exact gq_pan hcnt (fun w' hg => ⟨rfl, hg⟩))))
        all_goals refine D8 ?_
      | ok s1 =>
        rw [hq1] at hres hk1
        dsimp only at hres
        have hg1 := kidsF_grew (fun t s s' => nodeF_grew n t p s s') _ _ _ hq1
        have hf1 : Fits s1 (1 + szs (t.kids.drop 1)) := Fits.grew (hf.le (show szs (t.kids.take 1) + (1 + szs (t.kids.drop 1)) ≤ t.size by omega)) hg1
        have hf1n := hf1.next
        have hf1m := hf1.marks
        repeat' (first | ((with_reducible show GC _ _ (Code.region 15 _ _) _ _ _ _); (apply gc_stop)) | refine KK ?_ | refine NB fun b => ?_ | ((refine KB ?_ ?_ <;> intro hp)) | refine KG ?_ | fail)
        all_goals try (exfalso; omega)
        refine gcs ?_
        refine gc_draw 6 _ (by kernel_rfl) rfl (List.Sublist.cons _ (List.Sublist.cons _ (List.Sublist.cons _ (List.Sublist.cons_cons _ (List.Sublist.cons_cons _ (List.nil_sublist _)))))) ?_
        all_goals refine DD 0 ?_
        all_goals (first | refine D1 1 ?_ | (refine DV (k := 1) (b := by first | ((with_reducible apply v_slice_hi 1); exact rfl; exact rfl; exact rfl; exact rfl; exact rfl; omega)) (c := ?_)) | refine DD 1 ?_ | fail)
        all_goals (first | refine D1 2 ?_ | (refine DV (k := 2) (b := by first | ((with_reducible apply v_slice_hi 1); exact rfl; exact rfl; exact rfl; exact rfl; exact rfl; omega)) (c := ?_)) | (refine D3 2 (DW (b := by first | ((with_reducible apply v_slice_hi 1); exact rfl; exact rfl; exact rfl; exact rfl; exact rfl; omega)) (c := ?_))) | refine DD 2 ?_ | fail)
        all_goals (first | refine D1 3 ?_ | (refine DV (k := 3) (b := by first | ((with_reducible apply v_slice_hi 1); exact rfl; exact rfl; exact rfl; exact rfl; exact rfl; omega)) (c := ?_)) | refine DD 3 ?_ | fail)
        all_goals (first | refine D1 4 ?_ | (refine DV (k := 4) (b := by first | ((with_reducible apply v_slice_hi 1); exact rfl; exact rfl; exact rfl; exact rfl; exact rfl; omega)) (c := ?_)) | (refine D3 4 (DW (b := by first | ((with_reducible apply v_slice_hi 1); exact rfl; exact rfl; exact rfl; exact rfl; exact rfl; omega)) (c := ?_))) | refine DD 4 ?_ | fail)
        all_goals (first | (refine D3 5 ?_; refine D5 ?_; (with_reducible apply g_enter_bor (Ls := finB fb s1) (Post := fun _ _ _ => True) 3); exact rfl; exact rfl; exact rfl; ((with_reducible apply e_call3); kernel_rfl; exact rfl; exact rfl; exact rfl); exact rfl; (exact hk1); (rintro v2 μ1 i1 hle1 -); (dsimp only [List.cons_append, List.nil_append]); refine D9 ?_))
        all_goals refine D8 ?_
        have hnum1 := fun (w2 : World) (μ2 : Mem) (hw2 : MOk μ2 w2) (hO2 : Go.Vcg.Own μ2 [fA fb s1.next i1] w2) => number_spec fb s1.next i1 w2 μ2 hw2 hO2 (by omega)
        repeat' (first | ((with_reducible show GC _ _ (Code.seq (Code.region 17 _ _) _) _ _ _ _); (apply gc_stop)) | refine KO ?_ | ((with_reducible apply g_enter_bor 1); exact rfl; exact rfl; exact rfl; ((with_reducible apply e_call1); kernel_rfl; exact rfl); exact rfl; (exact fun w2 hw2 hO2 => hnum1 w2 _ hw2 hO2); (rintro v2 μ2 ⟨⟩ hle2 rfl); (dsimp only [List.cons_append, List.nil_append])) | refine KI ?_ | refine NB fun b => ?_ | ((refine KB ?_ ?_ <;> intro hp)) | refine KG ?_ | fail)
        refine gcs (gc_sel (l' := [(0, .pointer (some ⟨fb, 0, none⟩)), (4, .pointer (some ⟨bn, 0, none⟩)), (5, .pointer (some ⟨bp, 0, none⟩))]) (L' := [fA fb (s1.next + 1) i1, .inr ⟨i1.1, 33, 3, s1.marks.length, s1.marks.flatMap encM⟩, .inr ⟨i1.2, 35, 2, s1.jumps.length, s1.jumps.flatMap encJ⟩, .inl ⟨bn, 24, 6, idx 0 (encT t (.slice A t.kids.length c))⟩, .inl ⟨bp, 49, 3, idx 0 [.int .i64 s1.next, .int .i64 p.again, v]⟩]) PU PS ?_)
        have hle12 := hle1.trans hle2
        refine gc_join (ι := VV) (fun _ => True) (fun _ => μ2) (fun _ => [(0, .pointer (some ⟨fb, 0, none⟩)), (4, .pointer (some ⟨bn, 0, none⟩)), (5, .pointer (some ⟨bp, 0, none⟩))]) (fun i3 => finB fb (s1.mark t.at') i3 ++ [.inl ⟨bn, 24, 6, idx 0 (encT t (.slice A t.kids.length c))⟩, .inl ⟨bp, 49, 3, idx 0 [.int .i64 s1.next, .int .i64 p.again, v]⟩]) ?_ ?_
        · refine gc_draw 15 _ (by kernel_rfl) rfl (List.Sublist.cons _ (List.Sublist.cons _ (List.Sublist.cons _ (List.Sublist.cons_cons _ (List.Sublist.cons_cons _ (List.nil_sublist _)))))) ?_
          all_goals refine DD 0 ?_
          all_goals refine DD 1 ?_
          all_goals refine DD 2 ?_
          all_goals refine DD 3 ?_
          all_goals refine DD 5 ?_
          all_goals refine DD 6 ?_
          all_goals refine DD 7 ?_
          all_goals refine DD 8 ?_
          all_goals refine DD 9 ?_
          refine ga_all2 4 10 (by kernel_rfl) ?dr11_4 ?dr11_10
          case' dr11_4 =>
            (first | ((with_reducible apply gaop_val); exact rfl; exact rfl; exact rfl; exact rfl; (first | ((with_reducible apply pv_sound); exact rfl) | ((with_reducible apply v_ld); exact rfl; (repeat first | with_reducible exact inb_hd | with_reducible apply inb_tl); exact rfl))))
            all_goals (first | (refine D3 10 ?_; refine D5 ?_; refine NB fun b => ?_; refine D9 ?_))
            all_goals (first | (refine D3 11 ?_; refine D5 ?_; (first | ((with_reducible apply g_ap); exact rfl; exact rfl; exact rfl; (repeat first | with_reducible exact rowup_hd | with_reducible apply rowup_tl); (iterate 6 exact rfl); (first | ((with_reducible apply src_in); exact rfl; (repeat first | with_reducible exact inb_hd | with_reducible apply inb_tl); exact rfl)); (first | exact rfl | omega | simp); (first | assumption | (exact ones_mem (by (repeat first | with_reducible exact ones_nil | ((with_reducible apply ones_cons); (first | exact rfl | assumption))))) | simp [Value.oneCell']); omega; omega; intro v; (first | ((with_reducible apply g_rowForm 1); exact rfl; omega) | ((with_reducible apply g_rowForm 2); exact rfl; omega) | ((with_reducible apply g_rowForm 3); exact rfl; omega)); (rintro g cap rfl hcap)) | ((with_reducible apply g_append0); (iterate 9 exact rfl); (first | ((with_reducible apply src_in); exact rfl; (repeat first | with_reducible exact inb_hd | with_reducible apply inb_tl); exact rfl)); (first | exact rfl | omega | simp); (first | assumption | (exact ones_mem (by (repeat first | with_reducible exact ones_nil | ((with_reducible apply ones_cons); (first | exact rfl | assumption))))) | simp [Value.oneCell']); omega; omega; intro v; (first | ((with_reducible apply g_rowForm 1); exact rfl; omega) | ((with_reducible apply g_rowForm 2); exact rfl; omega) | ((with_reducible apply g_rowForm 3); exact rfl; omega)); (rintro g cap rfl hcap))); refine D9 ?_))
            all_goals refine DD 12 ?_
            all_goals refine DD 13 ?_
            all_goals (first | (refine D3 14 ?_; refine D5 ?_; refine Y0 ?_; refine D9 ?_))
            all_goals refine D8 ?_
          case' dr11_10 =>
            (first | (refine D5 ?_; refine NB fun b => ?_; refine D9 ?_))
            all_goals (first | (refine D3 4 ?_; (with_reducible apply gaop_val); exact rfl; exact rfl; exact rfl; exact rfl; (first | ((with_reducible apply pv_sound); exact rfl) | ((with_reducible apply v_ld); exact rfl; (repeat first | with_reducible exact inb_hd | with_reducible apply inb_tl); exact rfl))))
            all_goals (first | (refine D3 11 ?_; refine D5 ?_; (first | ((with_reducible apply g_ap); exact rfl; exact rfl; exact rfl; (repeat first | with_reducible exact rowup_hd | with_reducible apply rowup_tl); (iterate 6 exact rfl); (first | ((with_reducible apply src_in); exact rfl; (repeat first | with_reducible exact inb_hd | with_reducible apply inb_tl); exact rfl)); (first | exact rfl | omega | simp); (first | assumption | (exact ones_mem (by (repeat first | with_reducible exact ones_nil | ((with_reducible apply ones_cons); (first | exact rfl | assumption))))) | simp [Value.oneCell']); omega; omega; intro v; (first | ((with_reducible apply g_rowForm 1); exact rfl; omega) | ((with_reducible apply g_rowForm 2); exact rfl; omega) | ((with_reducible apply g_rowForm 3); exact rfl; omega)); (rintro g cap rfl hcap)) | ((with_reducible apply g_append0); (iterate 9 exact rfl); (first | ((with_reducible apply src_in); exact rfl; (repeat first | with_reducible exact inb_hd | with_reducible apply inb_tl); exact rfl)); (first | exact rfl | omega | simp); (first | assumption | (exact ones_mem (by (repeat first | with_reducible exact ones_nil | ((with_reducible apply ones_cons); (first | exact rfl | assumption))))) | simp [Value.oneCell']); omega; omega; intro v; (first | ((with_reducible apply g_rowForm 1); exact rfl; omega) | ((with_reducible apply g_rowForm 2); exact rfl; omega) | ((with_reducible apply g_rowForm 3); exact rfl; omega)); (rintro g cap rfl hcap))); refine D9 ?_))
            all_goals refine DD 12 ?_
            all_goals refine DD 13 ?_
            all_goals (first | (refine D3 14 ?_; refine D5 ?_; refine Y0 ?_; refine D9 ?_))
            all_goals refine D8 ?_
          all_goals refine gq_rowEq (n' := (s1.mark t.at').marks.length) (xs' := (s1.mark t.at').marks.flatMap encM) 2 rfl (by simp [LS.mark]) (by simp only [LS.mark, List.flatMap_append]; rfl) ?_
          all_goals exact J1 (.slice (some ⟨g, 0, none⟩) (s1.marks.length + 1) cap, i1.2) trivial
        rintro i3 -
        dsimp only [List.cons_append, List.nil_append]
        have hfm : Fits (s1.mark t.at') (szs (t.kids.drop 1)) := Fits.grew hf1 (mark_grew s1 t.at')
        have hk2 := fun (w2 : World) (hw2 : MOk μ2 w2) (hO2 : Go.Vcg.Own μ2 (finB fb (s1.mark t.at') i3) w2) => hK (t.kids.drop 1) _ ⟨s1.next, p.again, p.ls⟩ v (s1.mark t.at') i3 fb w2 μ2 hw2 hO2 (hkd.mono hle12) (fun k hk => hks k (List.mem_of_mem_drop hk)) (hv.mono hle12) hfm (by dsimp only; omega)
        rw [hres] at hk2
        refine gc_seq ?_
        cases res with
        | error e =>
          refine gc_draw 6 _ (by kernel_rfl) rfl (List.Sublist.cons _ (List.Sublist.cons _ (List.Sublist.cons _ (List.Sublist.cons_cons _ (List.Sublist.cons_cons _ (List.nil_sublist _)))))) ?_
          all_goals refine DD 0 ?_
          all_goals (first | refine D1 1 ?_ | (refine DV (k := 1) (b := by first | ((with_reducible apply v_slice_lo 1); exact rfl; exact rfl; exact rfl; exact rfl; exact rfl; omega)) (c := ?_)) | refine DD 1 ?_ | fail)
          all_goals (first | refine D1 2 ?_ | (refine DV (k := 2) (b := by first | ((with_reducible apply v_slice_lo 1); exact rfl; exact rfl; exact rfl; exact rfl; exact rfl; omega)) (c := ?_)) | (refine D3 2 (DW (b := by first | ((with_reducible apply v_slice_lo 1); exact rfl; exact rfl; exact rfl; exact rfl; exact rfl; omega)) (c := ?_))) | refine DD 2 ?_ | fail)
          all_goals (first | refine D1 3 ?_ | (refine DV (k := 3) (b := by first | ((with_reducible apply v_slice_lo 1); exact rfl; exact rfl; exact rfl; exact rfl; exact rfl; omega)) (c := ?_)) | refine DD 3 ?_ | fail)
          all_goals (first | refine D1 4 ?_ | (refine DV (k := 4) (b := by first | ((with_reducible apply v_slice_lo 1); exact rfl; exact rfl; exact rfl; exact rfl; exact rfl; omega)) (c := ?_)) | (refine D3 4 (DW (b := by first | ((with_reducible apply v_slice_lo 1); exact rfl; exact rfl; exact rfl; exact rfl; exact rfl; omega)) (c := ?_))) | refine DD 4 ?_ | fail)
          all_goals (first | (refine D3 5 ?_; refine D5 ?_; ((with_reducible apply g_enter_pan 3); exact rfl; ((with_reducible apply e_call3); kernel_rfl; exact rfl; exact rfl; exact rfl); exact rfl; (exact hk2); refine qa_panic ?_; (repeat (with_reducible (first | apply gq_then_panic | apply gq_block_panic))); exact gq_pan hcnt (fun w' hg => ⟨rfl, hg⟩))))
          all_goals refine D8 ?_
        | ok s2 =>
          refine gc_draw 6 _ (by kernel_rfl) rfl (List.Sublist.cons _ (List.Sublist.cons _ (List.Sublist.cons _ (List.Sublist.cons_cons _ (List.Sublist.cons_cons _ (List.nil_sublist _)))))) ?_
          all_goals refine DD 0 ?_
          all_goals (first | refine D1 1 ?_ | (refine DV (k := 1) (b := by first | ((with_reducible apply v_slice_lo 1); exact rfl; exact rfl; exact rfl; exact rfl; exact rfl; omega)) (c := ?_)) | refine DD 1 ?_ | fail)
          all_goals (first | refine D1 2 ?_ | (refine DV (k := 2) (b := by first | ((with_reducible apply v_slice_lo 1); exact rfl; exact rfl; exact rfl; exact rfl; exact rfl; omega)) (c := ?_)) | (refine D3 2 (DW (b := by first | ((with_reducible apply v_slice_lo 1); exact rfl; exact rfl; exact rfl; exact rfl; exact rfl; omega)) (c := ?_))) | refine DD 2 ?_ | fail)
          all_goals (first | refine D1 3 ?_ | (refine DV (k := 3) (b := by first | ((with_reducible apply v_slice_lo 1); exact rfl; exact rfl; exact rfl; exact rfl; exact rfl; omega)) (c := ?_)) | refine DD 3 ?_ | fail)
          all_goals (first | refine D1 4 ?_ | (refine DV (k := 4) (b := by first | ((with_reducible apply v_slice_lo 1); exact rfl; exact rfl; exact rfl; exact rfl; exact rfl; omega)) (c := ?_)) | (refine D3 4 (DW (b := by first | ((with_reducible apply v_slice_lo 1); exact rfl; exact rfl; exact rfl; exact rfl; exact rfl; omega)) (c := ?_))) | refine DD 4 ?_ | fail)
          all_goals (first | (refine D3 5 ?_; refine D5 ?_; (with_reducible apply g_enter_bor (Ls := finB fb s2) (Post := fun _ _ _ => True) 3); exact rfl; exact rfl; exact rfl; ((with_reducible apply e_call3); kernel_rfl; exact rfl; exact rfl; exact rfl); exact rfl; (exact hk2); (rintro v5 μ5 i5 hle5 -); (dsimp only [List.cons_append, List.nil_append]); refine D9 ?_))
          all_goals refine D8 ?_
          all_goals repeat' (first | refine KK ?_ | refine NB fun b => ?_ | ((refine KB ?_ ?_ <;> intro hp)) | refine KG ?_ | fail)
          all_goals refine gq_sel (l' := []) (L' := finB fb s2 i5) PU PS ?_
          all_goals exact out_ok hcnt rfl _ _ (.inl rfl)
    rw [if_neg h21] at hres
    cases hl : loopT t with
    | true =>
      rw [hl] at hres hlp
      rw [if_pos rfl] at hres
      have ha := fun (w2 : World) (hw2 : MOk μ w2) (hO2 : Go.Vcg.Own μ (finB fb s i) w2) => around_of_kids hK t _ p v s i fb w2 μ hw2 hO2 hk hks hv hf hpl
      rw [hres] at ha
      cases res with
      | error e =>
        repeat' (first | ((with_reducible (first | apply gq_then_panic | apply gq_block_panic))) | refine KO ?_ | ((with_reducible apply F1 40); exact rfl; exact EN; (exact fun w μc hw hse => hlp w μc hw)) | (refine CF 41 ?_; (with_reducible apply g_enter_pan 3); exact rfl; ((with_reducible apply e_call3); kernel_rfl; exact rfl; exact rfl; exact rfl); exact rfl; (exact ha)) | refine KI ?_ | refine NB fun b => ?_ | ((refine KB ?_ ?_ <;> intro hp)) | refine KG ?_ | fail)
        all_goals first | (exfalso; omega) | exact gq_pan hcnt (fun w' hg => ⟨rfl, hg⟩)
      | ok s2 =>
        repeat' (first | refine KO ?_ | ((with_reducible apply F1 40); exact rfl; exact EN; (exact fun w μc hw hse => hlp w μc hw)) | (refine CF 41 ?_; (with_reducible apply g_enter_bor (Ls := finB fb s2) (Post := fun _ _ _ => True) 3); exact rfl; exact rfl; exact rfl; ((with_reducible apply e_call3); kernel_rfl; exact rfl; exact rfl; exact rfl); exact rfl; (exact ha); (rintro v2 μ2 i2 hle2 -); (dsimp only [List.cons_append, List.nil_append])) | refine KI ?_ | refine NB fun b => ?_ | ((refine KB ?_ ?_ <;> intro hp)) | refine KG ?_ | fail)
        all_goals try (exfalso; omega)
        all_goals refine gq_sel (l' := []) (L' := finB fb s2 i2) PU PS ?_
        all_goals exact out_ok hcnt rfl _ _ (.inl rfl)
    | false =>
      rw [hl] at hres hlp
      rw [if_neg (by simp)] at hres
      have ha := fun (w2 : World) (hw2 : MOk μ w2) (hO2 : Go.Vcg.Own μ (finB fb s i) w2) => hK t.kids _ p v s i fb w2 μ hw2 hO2 hk hks hv (hf.le (by omega)) (by omega)
      rw [hres] at ha
      cases res with
      | error e =>
        repeat' (first | ((with_reducible (first | apply gq_then_panic | apply gq_block_panic))) | refine KO ?_ | ((with_reducible apply F1 40); exact rfl; exact EN; (exact fun w μc hw hse => hlp w μc hw)) | (refine CF 15 ?_; (with_reducible apply g_enter_pan 3); exact rfl; ((with_reducible apply e_call3); kernel_rfl; exact rfl; exact rfl; exact rfl); exact rfl; (exact ha)) | refine KI ?_ | refine NB fun b => ?_ | ((refine KB ?_ ?_ <;> intro hp)) | refine KG ?_ | fail)
        all_goals first | (exfalso; omega) | exact gq_pan hcnt (fun w' hg => ⟨rfl, hg⟩)
      | ok s2 =>
        repeat' (first | refine KO ?_ | ((with_reducible apply F1 40); exact rfl; exact EN; (exact fun w μc hw hse => hlp w μc hw)) | (refine CF 15 ?_; (with_reducible apply g_enter_bor (Ls := finB fb s2) (Post := fun _ _ _ => True) 3); exact rfl; exact rfl; exact rfl; ((with_reducible apply e_call3); kernel_rfl; exact rfl; exact rfl; exact rfl); exact rfl; (exact ha); (rintro v2 μ2 i2 hle2 -); (dsimp only [List.cons_append, List.nil_append])) | refine KI ?_ | refine NB fun b => ?_ | ((refine KB ?_ ?_ <;> intro hp)) | refine KG ?_ | fail)
        all_goals try (exfalso; omega)
        all_goals refine gq_sel (l' := []) (L' := finB fb s2 i2) PU PS ?_
        all_goals exact out_ok hcnt rfl _ _ (.inr rfl)
end Go.Proofs.YtnllooebophcpaaDoor
