/- Package outcome: the text of an outcome. (and what leans on it). No statement of the seat is proved here. -/
import Derived.Test.YtmihpkdhfomcgaaGreatDoorMd
import Derived.Test.YtmihpkdhfomcgaaGreatDoorSt
set_option maxRecDepth 20000
set_option maxHeartbeats 2000000
namespace Go.Vcg
open Go.RowKit
theorem v_load_at {P : Program} {μ : Mem} {l : Slots} {L : List Bk} {ds : Option Nat} {ty : TypeId} {pos : String} {af : Array Edge} {gd : Option (Nat × Bool)} {x : Operand} {v : Value} {t : TypeId} {off : Nat} {y : Blk} (i : Nat) (hag : aggOf P t = some false)
    (hi : nthB L i = some (.inl y)) (hx : ev l x = some (.pointer (some (Addr.add ⟨y.b, 0, none⟩ off)))) (hv : lk y.cs off = some v) : Val P μ l L ⟨ds, .load t x, ty, pos, af, gd⟩ v :=
  v_load hx (fun _ _ hs => run_loadScalar hag (by rw [add_lit, Nat.zero_add]; exact hs.cell (nthB_mem (i := i) hi) hv))
end Go.Vcg
namespace Go.Proofs.YtmihpkdhfomcgaaGreatDoor
open Go.RowKit Go.Vcg Ou
open Classical in
theorem mayB_may {o : OutP} (h : mayB o = true) : MayO keyR o := by
  by_cases hm : MayO keyR o
  · exact hm
  · rw [mayB_f hm] at h; cases h
theorem join_aux : ∀ (ls : List (List UInt8)) (l : List UInt8), l ++ (ls.map ([10] ++ ·)).flatten ++ [10] = (l :: ls).flatMap (· ++ [10])
  | [], l => by simp
  | m :: r, l => by
    have h := join_aux r m
    rw [List.flatMap_cons, ← h]
    simp
theorem join_lines (l : List UInt8) (ls : List (List UInt8)) : Lib.join (l :: ls) [10] ++ [10] = (l :: ls).flatMap (· ++ [10]) := by
  rw [Lib.join_cons]
  exact join_aux ls l
theorem line_len {ls : List (List UInt8)} {l : List UInt8} (h : l ∈ ls) : l.length + 1 ≤ (ls.flatMap (· ++ [10])).length := by
  induction ls with
  | nil => cases h
  | cons x r ih =>
    rw [List.flatMap_cons, List.length_append, List.length_append]
    rcases List.mem_cons.1 h with rfl | h
    · simp only [List.length_cons, List.length_nil]; omega
    · have := ih h; omega
theorem lines_len : ∀ ls : List (List UInt8), ls.length ≤ (ls.flatMap (· ++ [10])).length
  | [] => by simp
  | x :: r => by
    have := lines_len r
    rw [List.flatMap_cons, List.length_append, List.length_append, List.length_cons]
    simp only [List.length_cons, List.length_nil]
    omega
attribute [local irreducible] G GC GQ GA GAop Calls IntKind.wrap Int.decLt Int.decLe quoteB
theorem text_e (o : OutP) (A B : Option Addr) (c d : Nat) (he : o.e ≠ 0) (hm : mayB o = true) (hb : (textB o).length ≤ 1000000000) (w : World) (μ : Mem) (hμ : MOk μ w) (hT : TabOk μ)
    (hmay : ∀ (w : World) (μc : Mem), MOk μc w → MLe μ μc → Calls Tryz.prog 13 #[.agg (encO o A B c d).toArray] w fun en w' => en = .returned (.bool true) ∧ Below w.heap.size w w') :
    Calls Tryz.prog 8 #[.agg (encO o A B c d).toArray] w fun en w' => en = .returned (.string (ofB (textB o))) ∧ Below w.heap.size w w' := by
  have hM := mayB_may hm
  unfold MayO at hM
  rw [if_pos he] at hM
  have e : textB o = (((([101, 114, 114, 111, 114, 32] ++ errB o.e) ++ [32]) ++ Lib.itoa o.at_) ++ [10]) := by
    unfold textB linesB
    rw [if_pos he]
    simp
  rw [e] at hb ⊢
  simp only [List.length_append, List.length_cons, List.length_nil] at hb
  refine call_intro (args := [.agg (encO o A B c d).toArray]) Tryz.func8 rfl Tryz.ntmps8 (by simp) hμ ?_
  repeat' (first | refine KO ?_ | ((with_reducible apply F1 13); exact rfl; exact EN; (exact fun w μc hw hse => hmay w μc hw hse.le)) | refine KI ?_ | refine NB fun b => ?_ | ((refine KB ?_ ?_ <;> intro hp)) | refine KG ?_ | fail)
  all_goals first | (exfalso; first | omega | contradiction | (exact absurd ‹_› ‹¬ _›)) | skip
  refine gc_draw 11 _ (by kernel_rfl) rfl (List.Sublist.cons_cons _ (List.nil_sublist _)) ?_
  all_goals (first | refine D1 0 ?_ | (refine DV (k := 0) (b := by first | ((with_reducible apply v_addL); exact rfl; exact rfl; (simp only [List.length_append, List.length_cons, List.length_nil]; omega))) (c := ?_)) | refine DD 0 ?_ | fail)
  all_goals (first | refine D1 1 ?_ | (refine DV (k := 1) (b := by first | ((with_reducible apply v_addL); exact rfl; exact rfl; (simp only [List.length_append, List.length_cons, List.length_nil]; omega))) (c := ?_)) | (refine D3 1 (DW (b := by first | ((with_reducible apply v_addL); exact rfl; exact rfl; (simp only [List.length_append, List.length_cons, List.length_nil]; omega))) (c := ?_))) | refine DD 1 ?_ | fail)
  all_goals (first | refine D1 5 ?_ | (refine DV (k := 5) (b := by first | ((with_reducible apply v_addL); exact rfl; exact rfl; (simp only [List.length_append, List.length_cons, List.length_nil]; omega))) (c := ?_)) | refine DD 5 ?_ | fail)
  all_goals (first | refine D1 6 ?_ | (refine DV (k := 6) (b := by first | ((with_reducible apply v_addL); exact rfl; exact rfl; (simp only [List.length_append, List.length_cons, List.length_nil]; omega))) (c := ?_)) | (refine D3 6 (DW (b := by first | ((with_reducible apply v_addL); exact rfl; exact rfl; (simp only [List.length_append, List.length_cons, List.length_nil]; omega))) (c := ?_))) | refine DD 6 ?_ | fail)
  all_goals (first | (refine D3 2 ?_; refine D5 ?_; (first | ((with_reducible apply F1 14); exact rfl; exact EN; (exact fun w μc hw hse => errno_spec o.e w μc hw)) | ((with_reducible apply F1 15); exact rfl; exact EN; (exact fun w μc hw hse => digits_b hM.2.1 w μc hw (hT.mono hse.le)))); refine D9 ?_))
  all_goals (first | refine D1 3 ?_ | (refine DV (k := 3) (b := by first | ((with_reducible apply v_addL); exact rfl; exact rfl; (simp only [List.length_append, List.length_cons, List.length_nil]; omega))) (c := ?_)) | refine DD 3 ?_ | fail)
  all_goals (first | refine D1 4 ?_ | (refine DV (k := 4) (b := by first | ((with_reducible apply v_addL); exact rfl; exact rfl; (simp only [List.length_append, List.length_cons, List.length_nil]; omega))) (c := ?_)) | refine DD 4 ?_ | fail)
  all_goals (first | (refine D3 7 ?_; refine D5 ?_; (first | ((with_reducible apply F1 14); exact rfl; exact EN; (exact fun w μc hw hse => errno_spec o.e w μc hw)) | ((with_reducible apply F1 15); exact rfl; exact EN; (exact fun w μc hw hse => digits_b hM.2.1 w μc hw (hT.mono hse.le)))); refine D9 ?_))
  all_goals (first | refine D1 8 ?_ | (refine DV (k := 8) (b := by first | ((with_reducible apply v_addL); exact rfl; exact rfl; (simp only [List.length_append, List.length_cons, List.length_nil]; omega))) (c := ?_)) | refine DD 8 ?_ | fail)
  all_goals (first | refine D1 9 ?_ | (refine DV (k := 9) (b := by first | ((with_reducible apply v_addL); exact rfl; exact rfl; (simp only [List.length_append, List.length_cons, List.length_nil]; omega))) (c := ?_)) | refine DD 9 ?_ | fail)
  all_goals refine DD 10 ?_
  all_goals refine D8 ?_
  all_goals repeat' (first | refine KK ?_ | refine NB fun b => ?_ | ((refine KB ?_ ?_ <;> intro hp)) | refine KG ?_ | fail)
  all_goals first | (exfalso; first | omega | contradiction) | exact ret_s rfl rfl rfl
abbrev encRow (ls : List (List UInt8)) : List Value := ls.flatMap encL
theorem text_o (o : OutP) (A B : Option Addr) (c d : Nat) (he : o.e = 0) (hm : mayB o = true) (hb : (textB o).length ≤ 1000000000) (hnl : (linesB o).length ≤ 200000) (w : World) (μ : Mem) (hμ : MOk μ w) (hT : TabOk μ) (hA : Sl encStr 1 μ A o.out.length o.out) (hB : Sl encE 5 μ B o.log.length o.log)
    (hmay : ∀ (w : World) (μc : Mem), MOk μc w → MLe μ μc → Calls Tryz.prog 13 #[.agg (encO o A B c d).toArray] w fun en w' => en = .returned (.bool true) ∧ Below w.heap.size w w') :
    Calls Tryz.prog 8 #[.agg (encO o A B c d).toArray] w fun en w' => en = .returned (.string (ofB (textB o))) ∧ Below w.heap.size w w' := by
  have hM := mayB_may hm
  unfold MayO at hM
  rw [if_neg (fun h => h he)] at hM
  obtain ⟨_, _, hst, hmd, hev⟩ := hM
  obtain ⟨e0, he0⟩ : ∃ e0, e0 = ((([101, 110, 100, 115, 32] ++ endB o.fin) ++ [32]) ++ quoteB (byS o.text)) := ⟨_, rfl⟩
  obtain ⟨e1, he1⟩ : ∃ e1, e1 = [115, 116, 101, 112, 115, 32] ++ Lib.itoa o.steps := ⟨_, rfl⟩
  obtain ⟨e2, he2⟩ : ∃ e2, e2 = [109, 97, 100, 101, 32] ++ Lib.itoa o.made := ⟨_, rfl⟩
  have e : linesB o = e0 :: e1 :: e2 :: (o.out.map outLine ++ o.log.map evLine) := by
    unfold linesB
    rw [if_neg (fun h => h he), he0, he1, he2]
    simp
  have hls := fun (l : List UInt8) (h : l ∈ linesB o) => line_len h
  have hll := lines_len (linesB o)
  unfold textB at hb
  rw [e] at hls hll
  rw [← e] at hll
  have hb0 := hls e0 (by simp)
  have hb1 := hls e1 (by simp)
  have hb2 := hls e2 (by simp)
  rw [← e] at hb0 hb1 hb2
  rw [he0] at hb0
  rw [he1] at hb1
  rw [he2] at hb2
  simp only [List.length_append, List.length_cons, List.length_nil] at hb0 hb1 hb2
  have hcl : 3 + o.out.length + o.log.length = (linesB o).length := by rw [e]; simp; omega
  refine call_intro (args := [.agg (encO o A B c d).toArray]) Tryz.func8 rfl Tryz.ntmps8 (by simp) hμ ?_
  repeat' (first | refine KO ?_ | ((with_reducible apply F1 13); exact rfl; exact EN; (exact fun w μc hw hse => hmay w μc hw hse.le)) | refine KI ?_ | refine NB fun b => ?_ | ((refine KB ?_ ?_ <;> intro hp)) | refine KG ?_ | fail)
  all_goals first | (exfalso; first | omega | contradiction | (exact absurd ‹_› ‹¬ _›)) | skip
  rename Nat => bo
  refine gc_draw 19 _ (by kernel_rfl) rfl (List.Sublist.cons_cons _ (List.nil_sublist _)) ?_
  all_goals (first | refine D1 0 ?_ | (refine DV (k := 0) (b := by first | ((with_reducible apply v_addL); exact rfl; exact rfl; (simp only [List.length_append, List.length_cons, List.length_nil]; omega))) (c := ?_)) | refine DD 0 ?_ | fail)
  all_goals (first | refine D1 1 ?_ | (refine DV (k := 1) (b := by first | ((with_reducible apply v_addL); exact rfl; exact rfl; (simp only [List.length_append, List.length_cons, List.length_nil]; omega))) (c := ?_)) | (refine D3 1 (DW (b := by first | ((with_reducible apply v_addL); exact rfl; exact rfl; (simp only [List.length_append, List.length_cons, List.length_nil]; omega))) (c := ?_))) | refine DD 1 ?_ | fail)
  all_goals (first | refine D1 5 ?_ | (refine DV (k := 5) (b := by first | ((with_reducible apply v_addL); exact rfl; exact rfl; (simp only [List.length_append, List.length_cons, List.length_nil]; omega))) (c := ?_)) | refine DD 5 ?_ | fail)
  all_goals (first | refine D1 6 ?_ | (refine DV (k := 6) (b := by first | ((with_reducible apply v_addL); exact rfl; exact rfl; (simp only [List.length_append, List.length_cons, List.length_nil]; omega))) (c := ?_)) | (refine D3 6 (DW (b := by first | ((with_reducible apply v_addL); exact rfl; exact rfl; (simp only [List.length_append, List.length_cons, List.length_nil]; omega))) (c := ?_))) | refine DD 6 ?_ | fail)
  all_goals (first | refine D1 9 ?_ | (refine DV (k := 9) (b := by first | ((with_reducible apply v_addL); exact rfl; exact rfl; (simp only [List.length_append, List.length_cons, List.length_nil]; omega))) (c := ?_)) | refine DD 9 ?_ | fail)
  all_goals (first | refine D1 10 ?_ | (refine DV (k := 10) (b := by first | ((with_reducible apply v_addL); exact rfl; exact rfl; (simp only [List.length_append, List.length_cons, List.length_nil]; omega))) (c := ?_)) | (refine D3 10 (DW (b := by first | ((with_reducible apply v_addL); exact rfl; exact rfl; (simp only [List.length_append, List.length_cons, List.length_nil]; omega))) (c := ?_))) | refine DD 10 ?_ | fail)
  all_goals (first | refine D1 13 ?_ | (refine DV (k := 13) (b := by first | ((with_reducible apply v_addL); exact rfl; exact rfl; (simp only [List.length_append, List.length_cons, List.length_nil]; omega))) (c := ?_)) | refine DD 13 ?_ | fail)
  all_goals (first | refine D1 14 ?_ | (refine DV (k := 14) (b := by first | ((with_reducible apply v_addL); exact rfl; exact rfl; (simp only [List.length_append, List.length_cons, List.length_nil]; omega))) (c := ?_)) | (refine D3 14 (DW (b := by first | ((with_reducible apply v_addL); exact rfl; exact rfl; (simp only [List.length_append, List.length_cons, List.length_nil]; omega))) (c := ?_))) | refine DD 14 ?_ | fail)
  all_goals (first | (refine D3 2 ?_; refine D5 ?_; (first | ((with_reducible apply F1 16); exact rfl; exact EN; (exact fun w μc hw hse => ends_spec o.fin w μc hw)) | ((with_reducible apply F1 17); exact rfl; exact EN; (exact fun w μc hw hse => quote_b (by omega) w μc hw)) | ((with_reducible apply F1 15); exact rfl; exact EN; (first | (exact fun w μc hw hse => digits_b hst w μc hw (hT.mono hse.le)) | (exact fun w μc hw hse => digits_b hmd w μc hw (hT.mono hse.le))))); refine D9 ?_))
  all_goals (first | refine D1 3 ?_ | (refine DV (k := 3) (b := by first | ((with_reducible apply v_addL); exact rfl; exact rfl; (simp only [List.length_append, List.length_cons, List.length_nil]; omega))) (c := ?_)) | refine DD 3 ?_ | fail)
  all_goals (first | refine D1 4 ?_ | (refine DV (k := 4) (b := by first | ((with_reducible apply v_addL); exact rfl; exact rfl; (simp only [List.length_append, List.length_cons, List.length_nil]; omega))) (c := ?_)) | refine DD 4 ?_ | fail)
  all_goals (first | (refine D3 7 ?_; refine D5 ?_; (first | ((with_reducible apply F1 16); exact rfl; exact EN; (exact fun w μc hw hse => ends_spec o.fin w μc hw)) | ((with_reducible apply F1 17); exact rfl; exact EN; (exact fun w μc hw hse => quote_b (by omega) w μc hw)) | ((with_reducible apply F1 15); exact rfl; exact EN; (first | (exact fun w μc hw hse => digits_b hst w μc hw (hT.mono hse.le)) | (exact fun w μc hw hse => digits_b hmd w μc hw (hT.mono hse.le))))); refine D9 ?_))
  all_goals (first | refine D1 8 ?_ | (refine DV (k := 8) (b := by first | ((with_reducible apply v_addL); exact rfl; exact rfl; (simp only [List.length_append, List.length_cons, List.length_nil]; omega))) (c := ?_)) | refine DD 8 ?_ | fail)
  all_goals (first | (refine D3 11 ?_; refine D5 ?_; (first | ((with_reducible apply F1 16); exact rfl; exact EN; (exact fun w μc hw hse => ends_spec o.fin w μc hw)) | ((with_reducible apply F1 17); exact rfl; exact EN; (exact fun w μc hw hse => quote_b (by omega) w μc hw)) | ((with_reducible apply F1 15); exact rfl; exact EN; (first | (exact fun w μc hw hse => digits_b hst w μc hw (hT.mono hse.le)) | (exact fun w μc hw hse => digits_b hmd w μc hw (hT.mono hse.le))))); refine D9 ?_))
  all_goals (first | refine D1 12 ?_ | (refine DV (k := 12) (b := by first | ((with_reducible apply v_addL); exact rfl; exact rfl; (simp only [List.length_append, List.length_cons, List.length_nil]; omega))) (c := ?_)) | refine DD 12 ?_ | fail)
  all_goals (first | (refine D3 15 ?_; refine D5 ?_; (first | ((with_reducible apply F1 16); exact rfl; exact EN; (exact fun w μc hw hse => ends_spec o.fin w μc hw)) | ((with_reducible apply F1 17); exact rfl; exact EN; (exact fun w μc hw hse => quote_b (by omega) w μc hw)) | ((with_reducible apply F1 15); exact rfl; exact EN; (first | (exact fun w μc hw hse => digits_b hst w μc hw (hT.mono hse.le)) | (exact fun w μc hw hse => digits_b hmd w μc hw (hT.mono hse.le))))); refine D9 ?_))
  all_goals (first | refine D1 16 ?_ | (refine DV (k := 16) (b := by first | ((with_reducible apply v_addL); exact rfl; exact rfl; (simp only [List.length_append, List.length_cons, List.length_nil]; omega))) (c := ?_)) | refine DD 16 ?_ | fail)
  all_goals (first | (refine D3 17 ?_; refine D5 ?_; refine NB fun b => ?_; refine D9 ?_))
  all_goals refine DD 18 ?_
  all_goals refine D8 ?_
  all_goals refine gq_blkRow (xs := [.string (ofB ((([101, 110, 100, 115, 32] ++ endB o.fin) ++ [32]) ++ quoteB (byS o.text))), .string (ofB ([115, 116, 101, 112, 115, 32] ++ Lib.itoa o.steps)), .string (ofB ([109, 97, 100, 101, 32] ++ Lib.itoa o.made))]) 3 1 rfl (by repeat first | exact lc_nil | refine lc_cons rfl ?_) (by omega) ?_
  all_goals refine gq_rowEq (n' := 3 + 0) (xs' := encRow (e0 :: e1 :: e2 :: (o.out.take 0).map outLine)) 0 rfl rfl (by rw [he0, he1, he2]; rfl) ?_
  all_goals dsimp only [updB]
  all_goals repeat' (first | refine KK ?_ | refine NB fun b => ?_ | ((refine KB ?_ ?_ <;> intro hp)) | refine KG ?_ | fail)
  refine gc_loop (ι := Nat × Value) (fun i => i.1 ≤ o.out.length) (fun i => o.out.length - i.1) (fun _ => μ) (fun i => [(47, .int .i64 i.1), (46, .int .i64 o.out.length), (45, .slice A o.out.length c), (3, i.2), (1, .pointer (some ⟨bo, 0, none⟩))])
    (fun i => [.inr ⟨i.2, 9, 1, 3 + i.1, encRow (e0 :: e1 :: e2 :: (o.out.take i.1).map outLine)⟩, .inl ⟨bo, 27, 8, idx 0 (encO o A B c d)⟩]) (0, _) (Nat.zero_le _) (fun a w hs => J5 hs) ?_
  rintro ⟨i, v⟩ hil
  have hil' : i ≤ o.out.length := hil
  dsimp only
  by_cases hlt : i < o.out.length
  · obtain ⟨ad, x, rfl, hx, hmx⟩ := hA.get hlt
    have hxm := List.mem_of_getElem? hx
    have hbx := hls (outLine x) (by simp only [List.mem_cons, List.mem_append, List.mem_map]; exact .inr (.inr (.inr (.inl ⟨x, hxm, rfl⟩))))
    rw [← e] at hbx
    unfold outLine at hbx
    simp only [List.length_append, List.length_cons, List.length_nil] at hbx
    repeat' (first | refine KO ?_ | ((with_reducible apply F1 17); exact rfl; exact EN; (exact fun w μc hw hse => quote_b (by omega) w μc hw)) | (first | ((with_reducible apply g_ap); exact rfl; exact rfl; exact rfl; (repeat first | with_reducible exact rowup_hd | with_reducible apply rowup_tl); (iterate 6 exact rfl); (first | ((with_reducible apply src_in); exact rfl; (repeat first | with_reducible exact inb_hd | with_reducible apply inb_tl); exact rfl)); (first | exact rfl | omega | simp); (first | assumption | (exact ones_mem (by (repeat first | with_reducible exact ones_nil | ((with_reducible apply ones_cons); (first | exact rfl | assumption))))) | simp [Value.oneCell']); omega; omega; intro v) | ((with_reducible apply g_append0); (iterate 9 exact rfl); (first | ((with_reducible apply src_in); exact rfl; (repeat first | with_reducible exact inb_hd | with_reducible apply inb_tl); exact rfl)); (first | exact rfl | omega | simp); (first | assumption | (exact ones_mem (by (repeat first | with_reducible exact ones_nil | ((with_reducible apply ones_cons); (first | exact rfl | assumption))))) | simp [Value.oneCell']); omega; omega; intro v)) | (refine KV (b := by first | exact U1 i | exact U3 (hmx.at 0 rfl) | ((with_reducible apply v_addL); exact rfl; exact rfl; (simp only [List.length_append, List.length_cons, List.length_nil]; omega))) (c := ?_)) | refine KI ?_ | refine NB fun b => ?_ | ((refine KB ?_ ?_ <;> intro hp)) | refine KG ?_ | fail)
    all_goals refine gq_rowEq (n' := 3 + (i + 1)) (xs' := encRow (e0 :: e1 :: e2 :: (o.out.take (i + 1)).map outLine)) 1 rfl (by omega) (by rw [List.take_succ_eq_append_getElem hlt, List.map_append, show o.out[i] = x from (List.getElem?_eq_some_iff.1 hx).2]; simp [encRow, outLine]) ?_
    all_goals dsimp only [updB]
    all_goals exact J2 (i + 1, _) (by show i + 1 ≤ _; omega) (by show o.out.length - (i + 1) < o.out.length - i; omega)
  · obtain rfl : i = o.out.length := by omega
    rw [List.take_length]
    repeat' (first | refine KK ?_ | refine NB fun b => ?_ | ((refine KB ?_ ?_ <;> intro hp)) | refine KG ?_ | fail)
    all_goals first | (exfalso; omega) | skip
    refine gc_loop (ι := Nat × Value) (fun i => i.1 ≤ o.log.length) (fun i => o.log.length - i.1) (fun _ => μ) (fun i => [(61, .int .i64 i.1), (60, .int .i64 o.log.length), (59, .slice B o.log.length d), (3, i.2), (1, .pointer (some ⟨bo, 0, none⟩))])
      (fun i => [.inr ⟨i.2, 9, 1, 3 + o.out.length + i.1, encRow (e0 :: e1 :: e2 :: (o.out.map outLine ++ (o.log.take i.1).map evLine))⟩, .inl ⟨bo, 27, 8, idx 0 (encO o A B c d)⟩]) (0, v) (Nat.zero_le _) (fun a w hs => by
        have h2 := hs.rowEq (n' := 3 + o.out.length + 0) (xs' := encRow (e0 :: e1 :: e2 :: (o.out.map outLine ++ (o.log.take 0).map evLine))) (i := 0) rfl rfl (by simp [encRow])
        dsimp only [updB] at h2
        exact h2.sel PU PS) ?_
    rintro ⟨i, v⟩ hil
    have hil' : i ≤ o.log.length := hil
    dsimp only
    by_cases hlt : i < o.log.length
    · obtain ⟨ad, x, rfl, hx, hmx⟩ := hB.get hlt
      have hxm := List.mem_of_getElem? hx
      have hxe := hev x hxm
      have hbx := hls (evLine x) (by simp only [List.mem_cons, List.mem_append, List.mem_map]; exact .inr (.inr (.inr (.inr ⟨x, hxm, rfl⟩))))
      rw [← e] at hbx
      unfold evLine at hbx
      simp only [List.length_append, List.length_cons, List.length_nil] at hbx
      have hk13 : (x.kind - 1).toNat < 13 := by have := hxe.1; omega
      have hk1 := hxe.1
      have hevl : lk (idx 0 evV) ((x.kind - 1).toNat * 1) = some (.string (ofB (evB x.kind))) := by
        exact ev_lk hk13
      repeat' (first | refine KO ?_ | (refine KV (b := by first | exact U1 i | exact U4 hmx) (c := ?_)) | refine KI ?_ | refine NB fun b => ?_ | ((refine KB ?_ ?_ <;> intro hp)) | refine KG ?_ | fail)
      all_goals first | (exfalso; omega) | skip
      refine gc_draw 21 _ (by kernel_rfl) rfl (List.Sublist.cons_cons _ (List.Sublist.cons _ (List.Sublist.cons _ (List.nil_sublist _)))) ?_
      all_goals refine DD 0 ?_
      all_goals (first | refine D1 2 ?_ | (refine DV (k := 2) (b := by first | ((with_reducible apply v_addL); exact rfl; exact rfl; (simp only [List.length_append, List.length_cons, List.length_nil]; omega)) | exact U1 (x.kind - 1).toNat | ((first | (refine v_load_at (off := (x.kind - 1).toNat * 1) (v := .string (ofB (evB x.kind))) 0 rfl rfl rfl ?_; exact hevl) | (refine v_load_at (off := (x.kind - 1).toNat * 1) (v := .string (ofB (evB x.kind))) 1 rfl rfl rfl ?_; exact hevl)))) (c := ?_)) | refine DD 2 ?_ | fail)
      all_goals (first | refine D1 3 ?_ | (refine DV (k := 3) (b := by first | ((with_reducible apply v_addL); exact rfl; exact rfl; (simp only [List.length_append, List.length_cons, List.length_nil]; omega)) | exact U1 (x.kind - 1).toNat | ((first | (refine v_load_at (off := (x.kind - 1).toNat * 1) (v := .string (ofB (evB x.kind))) 0 rfl rfl rfl ?_; exact hevl) | (refine v_load_at (off := (x.kind - 1).toNat * 1) (v := .string (ofB (evB x.kind))) 1 rfl rfl rfl ?_; exact hevl)))) (c := ?_)) | (refine D3 3 (DW (b := by first | ((with_reducible apply v_addL); exact rfl; exact rfl; (simp only [List.length_append, List.length_cons, List.length_nil]; omega)) | exact U1 (x.kind - 1).toNat | ((first | (refine v_load_at (off := (x.kind - 1).toNat * 1) (v := .string (ofB (evB x.kind))) 0 rfl rfl rfl ?_; exact hevl) | (refine v_load_at (off := (x.kind - 1).toNat * 1) (v := .string (ofB (evB x.kind))) 1 rfl rfl rfl ?_; exact hevl)))) (c := ?_))) | refine DD 3 ?_ | fail)
      all_goals (first | refine D1 4 ?_ | (refine DV (k := 4) (b := by first | ((with_reducible apply v_addL); exact rfl; exact rfl; (simp only [List.length_append, List.length_cons, List.length_nil]; omega)) | exact U1 (x.kind - 1).toNat | ((first | (refine v_load_at (off := (x.kind - 1).toNat * 1) (v := .string (ofB (evB x.kind))) 0 rfl rfl rfl ?_; exact hevl) | (refine v_load_at (off := (x.kind - 1).toNat * 1) (v := .string (ofB (evB x.kind))) 1 rfl rfl rfl ?_; exact hevl)))) (c := ?_)) | refine DD 4 ?_ | fail)
      all_goals (first | refine D1 9 ?_ | (refine DV (k := 9) (b := by first | ((with_reducible apply v_addL); exact rfl; exact rfl; (simp only [List.length_append, List.length_cons, List.length_nil]; omega)) | exact U1 (x.kind - 1).toNat | ((first | (refine v_load_at (off := (x.kind - 1).toNat * 1) (v := .string (ofB (evB x.kind))) 0 rfl rfl rfl ?_; exact hevl) | (refine v_load_at (off := (x.kind - 1).toNat * 1) (v := .string (ofB (evB x.kind))) 1 rfl rfl rfl ?_; exact hevl)))) (c := ?_)) | refine DD 9 ?_ | fail)
      all_goals (first | refine D1 10 ?_ | (refine DV (k := 10) (b := by first | ((with_reducible apply v_addL); exact rfl; exact rfl; (simp only [List.length_append, List.length_cons, List.length_nil]; omega)) | exact U1 (x.kind - 1).toNat | ((first | (refine v_load_at (off := (x.kind - 1).toNat * 1) (v := .string (ofB (evB x.kind))) 0 rfl rfl rfl ?_; exact hevl) | (refine v_load_at (off := (x.kind - 1).toNat * 1) (v := .string (ofB (evB x.kind))) 1 rfl rfl rfl ?_; exact hevl)))) (c := ?_)) | (refine D3 10 (DW (b := by first | ((with_reducible apply v_addL); exact rfl; exact rfl; (simp only [List.length_append, List.length_cons, List.length_nil]; omega)) | exact U1 (x.kind - 1).toNat | ((first | (refine v_load_at (off := (x.kind - 1).toNat * 1) (v := .string (ofB (evB x.kind))) 0 rfl rfl rfl ?_; exact hevl) | (refine v_load_at (off := (x.kind - 1).toNat * 1) (v := .string (ofB (evB x.kind))) 1 rfl rfl rfl ?_; exact hevl)))) (c := ?_))) | refine DD 10 ?_ | fail)
      all_goals (first | refine D1 14 ?_ | (refine DV (k := 14) (b := by first | ((with_reducible apply v_addL); exact rfl; exact rfl; (simp only [List.length_append, List.length_cons, List.length_nil]; omega)) | exact U1 (x.kind - 1).toNat | ((first | (refine v_load_at (off := (x.kind - 1).toNat * 1) (v := .string (ofB (evB x.kind))) 0 rfl rfl rfl ?_; exact hevl) | (refine v_load_at (off := (x.kind - 1).toNat * 1) (v := .string (ofB (evB x.kind))) 1 rfl rfl rfl ?_; exact hevl)))) (c := ?_)) | refine DD 14 ?_ | fail)
      all_goals (first | refine D1 15 ?_ | (refine DV (k := 15) (b := by first | ((with_reducible apply v_addL); exact rfl; exact rfl; (simp only [List.length_append, List.length_cons, List.length_nil]; omega)) | exact U1 (x.kind - 1).toNat | ((first | (refine v_load_at (off := (x.kind - 1).toNat * 1) (v := .string (ofB (evB x.kind))) 0 rfl rfl rfl ?_; exact hevl) | (refine v_load_at (off := (x.kind - 1).toNat * 1) (v := .string (ofB (evB x.kind))) 1 rfl rfl rfl ?_; exact hevl)))) (c := ?_)) | (refine D3 15 (DW (b := by first | ((with_reducible apply v_addL); exact rfl; exact rfl; (simp only [List.length_append, List.length_cons, List.length_nil]; omega)) | exact U1 (x.kind - 1).toNat | ((first | (refine v_load_at (off := (x.kind - 1).toNat * 1) (v := .string (ofB (evB x.kind))) 0 rfl rfl rfl ?_; exact hevl) | (refine v_load_at (off := (x.kind - 1).toNat * 1) (v := .string (ofB (evB x.kind))) 1 rfl rfl rfl ?_; exact hevl)))) (c := ?_))) | refine DD 15 ?_ | fail)
      all_goals (first | (refine D3 1 ?_; refine D5 ?_; (first | (refine CF 18 ?_; (with_reducible apply g_enter_bor (Ls := fun i => [.inl ⟨i, 9, 13, idx 0 evV⟩]) 0); exact rfl; exact rfl; exact rfl; ((with_reducible apply e_call0); kernel_rfl); exact rfl; (exact fun w hw _ => events_spec w _ hw); (rintro v2 μ2 bev hle2 rfl); (dsimp only [List.cons_append, List.nil_append]); refine g_forget (by simp) hle2 rfl ?_) | ((with_reducible apply F1 19); exact rfl; exact EN; (exact fun w μc hw hse => keyText_spec x.key hxe.2.2 (by omega) w μc hw (hT.mono hse.le))) | ((with_reducible apply F1 17); exact rfl; exact EN; (exact fun w μc hw hse => quote_b (by omega) w μc hw))); refine D9 ?_))
      all_goals (first | refine D1 5 ?_ | (refine DV (k := 5) (b := by first | ((with_reducible apply v_addL); exact rfl; exact rfl; (simp only [List.length_append, List.length_cons, List.length_nil]; omega)) | exact U1 (x.kind - 1).toNat | ((first | (refine v_load_at (off := (x.kind - 1).toNat * 1) (v := .string (ofB (evB x.kind))) 0 rfl rfl rfl ?_; exact hevl) | (refine v_load_at (off := (x.kind - 1).toNat * 1) (v := .string (ofB (evB x.kind))) 1 rfl rfl rfl ?_; exact hevl)))) (c := ?_)) | refine DD 5 ?_ | fail)
      refine ga_all2 6 11 (by kernel_rfl) ?dr7_6 ?dr7_11
      case' dr7_6 =>
        (first | ((with_reducible apply gaop_val); exact rfl; exact rfl; exact rfl; exact rfl; (first | ((with_reducible apply pv_sound); exact rfl) | ((with_reducible apply v_addL); exact rfl; exact rfl; (simp only [List.length_append, List.length_cons, List.length_nil]; omega)) | exact U1 (x.kind - 1).toNat | ((first | (refine v_load_at (off := (x.kind - 1).toNat * 1) (v := .string (ofB (evB x.kind))) 0 rfl rfl rfl ?_; exact hevl) | (refine v_load_at (off := (x.kind - 1).toNat * 1) (v := .string (ofB (evB x.kind))) 1 rfl rfl rfl ?_; exact hevl))) | ((with_reducible apply v_ld); exact rfl; (repeat first | with_reducible exact inb_hd | with_reducible apply inb_tl); exact rfl))))
        all_goals (first | refine D1 7 ?_ | (refine DV (k := 7) (b := by first | ((with_reducible apply v_addL); exact rfl; exact rfl; (simp only [List.length_append, List.length_cons, List.length_nil]; omega)) | exact U1 (x.kind - 1).toNat | ((first | (refine v_load_at (off := (x.kind - 1).toNat * 1) (v := .string (ofB (evB x.kind))) 0 rfl rfl rfl ?_; exact hevl) | (refine v_load_at (off := (x.kind - 1).toNat * 1) (v := .string (ofB (evB x.kind))) 1 rfl rfl rfl ?_; exact hevl)))) (c := ?_)) | refine DD 7 ?_ | fail)
        all_goals (first | refine D1 8 ?_ | (refine DV (k := 8) (b := by first | ((with_reducible apply v_addL); exact rfl; exact rfl; (simp only [List.length_append, List.length_cons, List.length_nil]; omega)) | exact U1 (x.kind - 1).toNat | ((first | (refine v_load_at (off := (x.kind - 1).toNat * 1) (v := .string (ofB (evB x.kind))) 0 rfl rfl rfl ?_; exact hevl) | (refine v_load_at (off := (x.kind - 1).toNat * 1) (v := .string (ofB (evB x.kind))) 1 rfl rfl rfl ?_; exact hevl)))) (c := ?_)) | refine DD 8 ?_ | fail)
        all_goals (first | (refine D3 11 ?_; refine D5 ?_; (first | (refine CF 18 ?_; (with_reducible apply g_enter_bor (Ls := fun i => [.inl ⟨i, 9, 13, idx 0 evV⟩]) 0); exact rfl; exact rfl; exact rfl; ((with_reducible apply e_call0); kernel_rfl); exact rfl; (exact fun w hw _ => events_spec w _ hw); (rintro v2 μ2 bev hle2 rfl); (dsimp only [List.cons_append, List.nil_append]); refine g_forget (by simp) hle2 rfl ?_) | ((with_reducible apply F1 19); exact rfl; exact EN; (exact fun w μc hw hse => keyText_spec x.key hxe.2.2 (by omega) w μc hw (hT.mono hse.le))) | ((with_reducible apply F1 17); exact rfl; exact EN; (exact fun w μc hw hse => quote_b (by omega) w μc hw))); refine D9 ?_))
        all_goals (first | refine D1 12 ?_ | (refine DV (k := 12) (b := by first | ((with_reducible apply v_addL); exact rfl; exact rfl; (simp only [List.length_append, List.length_cons, List.length_nil]; omega)) | exact U1 (x.kind - 1).toNat | ((first | (refine v_load_at (off := (x.kind - 1).toNat * 1) (v := .string (ofB (evB x.kind))) 0 rfl rfl rfl ?_; exact hevl) | (refine v_load_at (off := (x.kind - 1).toNat * 1) (v := .string (ofB (evB x.kind))) 1 rfl rfl rfl ?_; exact hevl)))) (c := ?_)) | refine DD 12 ?_ | fail)
        all_goals (first | refine D1 13 ?_ | (refine DV (k := 13) (b := by first | ((with_reducible apply v_addL); exact rfl; exact rfl; (simp only [List.length_append, List.length_cons, List.length_nil]; omega)) | exact U1 (x.kind - 1).toNat | ((first | (refine v_load_at (off := (x.kind - 1).toNat * 1) (v := .string (ofB (evB x.kind))) 0 rfl rfl rfl ?_; exact hevl) | (refine v_load_at (off := (x.kind - 1).toNat * 1) (v := .string (ofB (evB x.kind))) 1 rfl rfl rfl ?_; exact hevl)))) (c := ?_)) | refine DD 13 ?_ | fail)
        all_goals (first | (refine D3 16 ?_; refine D5 ?_; (first | (refine CF 18 ?_; (with_reducible apply g_enter_bor (Ls := fun i => [.inl ⟨i, 9, 13, idx 0 evV⟩]) 0); exact rfl; exact rfl; exact rfl; ((with_reducible apply e_call0); kernel_rfl); exact rfl; (exact fun w hw _ => events_spec w _ hw); (rintro v2 μ2 bev hle2 rfl); (dsimp only [List.cons_append, List.nil_append]); refine g_forget (by simp) hle2 rfl ?_) | ((with_reducible apply F1 19); exact rfl; exact EN; (exact fun w μc hw hse => keyText_spec x.key hxe.2.2 (by omega) w μc hw (hT.mono hse.le))) | ((with_reducible apply F1 17); exact rfl; exact EN; (exact fun w μc hw hse => quote_b (by omega) w μc hw))); refine D9 ?_))
        all_goals (first | refine D1 17 ?_ | (refine DV (k := 17) (b := by first | ((with_reducible apply v_addL); exact rfl; exact rfl; (simp only [List.length_append, List.length_cons, List.length_nil]; omega)) | exact U1 (x.kind - 1).toNat | ((first | (refine v_load_at (off := (x.kind - 1).toNat * 1) (v := .string (ofB (evB x.kind))) 0 rfl rfl rfl ?_; exact hevl) | (refine v_load_at (off := (x.kind - 1).toNat * 1) (v := .string (ofB (evB x.kind))) 1 rfl rfl rfl ?_; exact hevl)))) (c := ?_)) | refine DD 17 ?_ | fail)
        all_goals (first | (refine D3 18 ?_; refine D5 ?_; refine NB fun b => ?_; refine D9 ?_))
        all_goals (first | (refine D3 19 ?_; refine D5 ?_; (first | ((with_reducible apply g_ap); exact rfl; exact rfl; exact rfl; (repeat first | with_reducible exact rowup_hd | with_reducible apply rowup_tl); (iterate 6 exact rfl); (first | ((with_reducible apply src_in); exact rfl; (repeat first | with_reducible exact inb_hd | with_reducible apply inb_tl); exact rfl)); (first | exact rfl | omega | simp); (first | assumption | (exact ones_mem (by (repeat first | with_reducible exact ones_nil | ((with_reducible apply ones_cons); (first | exact rfl | assumption))))) | simp [Value.oneCell']); omega; omega; intro v) | ((with_reducible apply g_append0); (iterate 9 exact rfl); (first | ((with_reducible apply src_in); exact rfl; (repeat first | with_reducible exact inb_hd | with_reducible apply inb_tl); exact rfl)); (first | exact rfl | omega | simp); (first | assumption | (exact ones_mem (by (repeat first | with_reducible exact ones_nil | ((with_reducible apply ones_cons); (first | exact rfl | assumption))))) | simp [Value.oneCell']); omega; omega; intro v)); refine D9 ?_))
        all_goals refine DD 20 ?_
        all_goals refine D8 ?_
      case' dr7_11 =>
        (first | (refine D5 ?_; (first | (refine CF 18 ?_; (with_reducible apply g_enter_bor (Ls := fun i => [.inl ⟨i, 9, 13, idx 0 evV⟩]) 0); exact rfl; exact rfl; exact rfl; ((with_reducible apply e_call0); kernel_rfl); exact rfl; (exact fun w hw _ => events_spec w _ hw); (rintro v2 μ2 bev hle2 rfl); (dsimp only [List.cons_append, List.nil_append]); refine g_forget (by simp) hle2 rfl ?_) | ((with_reducible apply F1 19); exact rfl; exact EN; (exact fun w μc hw hse => keyText_spec x.key hxe.2.2 (by omega) w μc hw (hT.mono hse.le))) | ((with_reducible apply F1 17); exact rfl; exact EN; (exact fun w μc hw hse => quote_b (by omega) w μc hw))); refine D9 ?_))
        refine ga_all2 6 16 (by kernel_rfl) ?dr8_6 ?dr8_16
        case' dr8_6 =>
          (first | ((with_reducible apply gaop_val); exact rfl; exact rfl; exact rfl; exact rfl; (first | ((with_reducible apply pv_sound); exact rfl) | ((with_reducible apply v_addL); exact rfl; exact rfl; (simp only [List.length_append, List.length_cons, List.length_nil]; omega)) | exact U1 (x.kind - 1).toNat | ((first | (refine v_load_at (off := (x.kind - 1).toNat * 1) (v := .string (ofB (evB x.kind))) 0 rfl rfl rfl ?_; exact hevl) | (refine v_load_at (off := (x.kind - 1).toNat * 1) (v := .string (ofB (evB x.kind))) 1 rfl rfl rfl ?_; exact hevl))) | ((with_reducible apply v_ld); exact rfl; (repeat first | with_reducible exact inb_hd | with_reducible apply inb_tl); exact rfl))))
          all_goals (first | refine D1 7 ?_ | (refine DV (k := 7) (b := by first | ((with_reducible apply v_addL); exact rfl; exact rfl; (simp only [List.length_append, List.length_cons, List.length_nil]; omega)) | exact U1 (x.kind - 1).toNat | ((first | (refine v_load_at (off := (x.kind - 1).toNat * 1) (v := .string (ofB (evB x.kind))) 0 rfl rfl rfl ?_; exact hevl) | (refine v_load_at (off := (x.kind - 1).toNat * 1) (v := .string (ofB (evB x.kind))) 1 rfl rfl rfl ?_; exact hevl)))) (c := ?_)) | refine DD 7 ?_ | fail)
          all_goals (first | refine D1 8 ?_ | (refine DV (k := 8) (b := by first | ((with_reducible apply v_addL); exact rfl; exact rfl; (simp only [List.length_append, List.length_cons, List.length_nil]; omega)) | exact U1 (x.kind - 1).toNat | ((first | (refine v_load_at (off := (x.kind - 1).toNat * 1) (v := .string (ofB (evB x.kind))) 0 rfl rfl rfl ?_; exact hevl) | (refine v_load_at (off := (x.kind - 1).toNat * 1) (v := .string (ofB (evB x.kind))) 1 rfl rfl rfl ?_; exact hevl)))) (c := ?_)) | refine DD 8 ?_ | fail)
          all_goals (first | refine D1 12 ?_ | (refine DV (k := 12) (b := by first | ((with_reducible apply v_addL); exact rfl; exact rfl; (simp only [List.length_append, List.length_cons, List.length_nil]; omega)) | exact U1 (x.kind - 1).toNat | ((first | (refine v_load_at (off := (x.kind - 1).toNat * 1) (v := .string (ofB (evB x.kind))) 0 rfl rfl rfl ?_; exact hevl) | (refine v_load_at (off := (x.kind - 1).toNat * 1) (v := .string (ofB (evB x.kind))) 1 rfl rfl rfl ?_; exact hevl)))) (c := ?_)) | refine DD 12 ?_ | fail)
          all_goals (first | refine D1 13 ?_ | (refine DV (k := 13) (b := by first | ((with_reducible apply v_addL); exact rfl; exact rfl; (simp only [List.length_append, List.length_cons, List.length_nil]; omega)) | exact U1 (x.kind - 1).toNat | ((first | (refine v_load_at (off := (x.kind - 1).toNat * 1) (v := .string (ofB (evB x.kind))) 0 rfl rfl rfl ?_; exact hevl) | (refine v_load_at (off := (x.kind - 1).toNat * 1) (v := .string (ofB (evB x.kind))) 1 rfl rfl rfl ?_; exact hevl)))) (c := ?_)) | refine DD 13 ?_ | fail)
          all_goals (first | (refine D3 16 ?_; refine D5 ?_; (first | (refine CF 18 ?_; (with_reducible apply g_enter_bor (Ls := fun i => [.inl ⟨i, 9, 13, idx 0 evV⟩]) 0); exact rfl; exact rfl; exact rfl; ((with_reducible apply e_call0); kernel_rfl); exact rfl; (exact fun w hw _ => events_spec w _ hw); (rintro v2 μ2 bev hle2 rfl); (dsimp only [List.cons_append, List.nil_append]); refine g_forget (by simp) hle2 rfl ?_) | ((with_reducible apply F1 19); exact rfl; exact EN; (exact fun w μc hw hse => keyText_spec x.key hxe.2.2 (by omega) w μc hw (hT.mono hse.le))) | ((with_reducible apply F1 17); exact rfl; exact EN; (exact fun w μc hw hse => quote_b (by omega) w μc hw))); refine D9 ?_))
          all_goals (first | refine D1 17 ?_ | (refine DV (k := 17) (b := by first | ((with_reducible apply v_addL); exact rfl; exact rfl; (simp only [List.length_append, List.length_cons, List.length_nil]; omega)) | exact U1 (x.kind - 1).toNat | ((first | (refine v_load_at (off := (x.kind - 1).toNat * 1) (v := .string (ofB (evB x.kind))) 0 rfl rfl rfl ?_; exact hevl) | (refine v_load_at (off := (x.kind - 1).toNat * 1) (v := .string (ofB (evB x.kind))) 1 rfl rfl rfl ?_; exact hevl)))) (c := ?_)) | refine DD 17 ?_ | fail)
          all_goals (first | (refine D3 18 ?_; refine D5 ?_; refine NB fun b => ?_; refine D9 ?_))
          all_goals (first | (refine D3 19 ?_; refine D5 ?_; (first | ((with_reducible apply g_ap); exact rfl; exact rfl; exact rfl; (repeat first | with_reducible exact rowup_hd | with_reducible apply rowup_tl); (iterate 6 exact rfl); (first | ((with_reducible apply src_in); exact rfl; (repeat first | with_reducible exact inb_hd | with_reducible apply inb_tl); exact rfl)); (first | exact rfl | omega | simp); (first | assumption | (exact ones_mem (by (repeat first | with_reducible exact ones_nil | ((with_reducible apply ones_cons); (first | exact rfl | assumption))))) | simp [Value.oneCell']); omega; omega; intro v) | ((with_reducible apply g_append0); (iterate 9 exact rfl); (first | ((with_reducible apply src_in); exact rfl; (repeat first | with_reducible exact inb_hd | with_reducible apply inb_tl); exact rfl)); (first | exact rfl | omega | simp); (first | assumption | (exact ones_mem (by (repeat first | with_reducible exact ones_nil | ((with_reducible apply ones_cons); (first | exact rfl | assumption))))) | simp [Value.oneCell']); omega; omega; intro v)); refine D9 ?_))
          all_goals refine DD 20 ?_
          all_goals refine D8 ?_
        case' dr8_16 =>
          (first | (refine D5 ?_; (first | (refine CF 18 ?_; (with_reducible apply g_enter_bor (Ls := fun i => [.inl ⟨i, 9, 13, idx 0 evV⟩]) 0); exact rfl; exact rfl; exact rfl; ((with_reducible apply e_call0); kernel_rfl); exact rfl; (exact fun w hw _ => events_spec w _ hw); (rintro v2 μ2 bev hle2 rfl); (dsimp only [List.cons_append, List.nil_append]); refine g_forget (by simp) hle2 rfl ?_) | ((with_reducible apply F1 19); exact rfl; exact EN; (exact fun w μc hw hse => keyText_spec x.key hxe.2.2 (by omega) w μc hw (hT.mono hse.le))) | ((with_reducible apply F1 17); exact rfl; exact EN; (exact fun w μc hw hse => quote_b (by omega) w μc hw))); refine D9 ?_))
          all_goals (first | (refine D3 6 ?_; (with_reducible apply gaop_val); exact rfl; exact rfl; exact rfl; exact rfl; (first | ((with_reducible apply pv_sound); exact rfl) | ((with_reducible apply v_addL); exact rfl; exact rfl; (simp only [List.length_append, List.length_cons, List.length_nil]; omega)) | exact U1 (x.kind - 1).toNat | ((first | (refine v_load_at (off := (x.kind - 1).toNat * 1) (v := .string (ofB (evB x.kind))) 0 rfl rfl rfl ?_; exact hevl) | (refine v_load_at (off := (x.kind - 1).toNat * 1) (v := .string (ofB (evB x.kind))) 1 rfl rfl rfl ?_; exact hevl))) | ((with_reducible apply v_ld); exact rfl; (repeat first | with_reducible exact inb_hd | with_reducible apply inb_tl); exact rfl))))
          all_goals (first | refine D1 7 ?_ | (refine DV (k := 7) (b := by first | ((with_reducible apply v_addL); exact rfl; exact rfl; (simp only [List.length_append, List.length_cons, List.length_nil]; omega)) | exact U1 (x.kind - 1).toNat | ((first | (refine v_load_at (off := (x.kind - 1).toNat * 1) (v := .string (ofB (evB x.kind))) 0 rfl rfl rfl ?_; exact hevl) | (refine v_load_at (off := (x.kind - 1).toNat * 1) (v := .string (ofB (evB x.kind))) 1 rfl rfl rfl ?_; exact hevl)))) (c := ?_)) | refine DD 7 ?_ | fail)
          all_goals (first | refine D1 8 ?_ | (refine DV (k := 8) (b := by first | ((with_reducible apply v_addL); exact rfl; exact rfl; (simp only [List.length_append, List.length_cons, List.length_nil]; omega)) | exact U1 (x.kind - 1).toNat | ((first | (refine v_load_at (off := (x.kind - 1).toNat * 1) (v := .string (ofB (evB x.kind))) 0 rfl rfl rfl ?_; exact hevl) | (refine v_load_at (off := (x.kind - 1).toNat * 1) (v := .string (ofB (evB x.kind))) 1 rfl rfl rfl ?_; exact hevl)))) (c := ?_)) | refine DD 8 ?_ | fail)
          all_goals (first | refine D1 12 ?_ | (refine DV (k := 12) (b := by first | ((with_reducible apply v_addL); exact rfl; exact rfl; (simp only [List.length_append, List.length_cons, List.length_nil]; omega)) | exact U1 (x.kind - 1).toNat | ((first | (refine v_load_at (off := (x.kind - 1).toNat * 1) (v := .string (ofB (evB x.kind))) 0 rfl rfl rfl ?_; exact hevl) | (refine v_load_at (off := (x.kind - 1).toNat * 1) (v := .string (ofB (evB x.kind))) 1 rfl rfl rfl ?_; exact hevl)))) (c := ?_)) | refine DD 12 ?_ | fail)
          all_goals (first | refine D1 13 ?_ | (refine DV (k := 13) (b := by first | ((with_reducible apply v_addL); exact rfl; exact rfl; (simp only [List.length_append, List.length_cons, List.length_nil]; omega)) | exact U1 (x.kind - 1).toNat | ((first | (refine v_load_at (off := (x.kind - 1).toNat * 1) (v := .string (ofB (evB x.kind))) 0 rfl rfl rfl ?_; exact hevl) | (refine v_load_at (off := (x.kind - 1).toNat * 1) (v := .string (ofB (evB x.kind))) 1 rfl rfl rfl ?_; exact hevl)))) (c := ?_)) | refine DD 13 ?_ | fail)
          all_goals (first | refine D1 17 ?_ | (refine DV (k := 17) (b := by first | ((with_reducible apply v_addL); exact rfl; exact rfl; (simp only [List.length_append, List.length_cons, List.length_nil]; omega)) | exact U1 (x.kind - 1).toNat | ((first | (refine v_load_at (off := (x.kind - 1).toNat * 1) (v := .string (ofB (evB x.kind))) 0 rfl rfl rfl ?_; exact hevl) | (refine v_load_at (off := (x.kind - 1).toNat * 1) (v := .string (ofB (evB x.kind))) 1 rfl rfl rfl ?_; exact hevl)))) (c := ?_)) | refine DD 17 ?_ | fail)
          all_goals (first | (refine D3 18 ?_; refine D5 ?_; refine NB fun b => ?_; refine D9 ?_))
          all_goals (first | (refine D3 19 ?_; refine D5 ?_; (first | ((with_reducible apply g_ap); exact rfl; exact rfl; exact rfl; (repeat first | with_reducible exact rowup_hd | with_reducible apply rowup_tl); (iterate 6 exact rfl); (first | ((with_reducible apply src_in); exact rfl; (repeat first | with_reducible exact inb_hd | with_reducible apply inb_tl); exact rfl)); (first | exact rfl | omega | simp); (first | assumption | (exact ones_mem (by (repeat first | with_reducible exact ones_nil | ((with_reducible apply ones_cons); (first | exact rfl | assumption))))) | simp [Value.oneCell']); omega; omega; intro v) | ((with_reducible apply g_append0); (iterate 9 exact rfl); (first | ((with_reducible apply src_in); exact rfl; (repeat first | with_reducible exact inb_hd | with_reducible apply inb_tl); exact rfl)); (first | exact rfl | omega | simp); (first | assumption | (exact ones_mem (by (repeat first | with_reducible exact ones_nil | ((with_reducible apply ones_cons); (first | exact rfl | assumption))))) | simp [Value.oneCell']); omega; omega; intro v)); refine D9 ?_))
          all_goals refine DD 20 ?_
          all_goals refine D8 ?_
      all_goals refine gq_rowEq (n' := 3 + o.out.length + (i + 1)) (xs' := encRow (e0 :: e1 :: e2 :: (o.out.map outLine ++ (o.log.take (i + 1)).map evLine))) 3 rfl (by omega) (by rw [List.take_succ_eq_append_getElem hlt, List.map_append, show o.log[i] = x from (List.getElem?_eq_some_iff.1 hx).2]; simp [encRow, evLine]) ?_
      all_goals dsimp only [updB]
      all_goals repeat' (first | refine KK ?_ | refine NB fun b => ?_ | ((refine KB ?_ ?_ <;> intro hp)) | refine KG ?_ | fail)
      all_goals exact J2 (i + 1, _) (by show i + 1 ≤ _; omega) (by show o.log.length - (i + 1) < o.log.length - i; omega)
    · obtain rfl : i = o.log.length := by omega
      rw [List.take_length]
      refine gc_rowOk 0 rfl ?_
      rintro A3 c3 rfl hok3
      have hjl : (Lib.join (e0 :: e1 :: e2 :: (o.out.map outLine ++ o.log.map evLine)) [10]).length ≤ 1000000000 := by
        have := congrArg List.length (join_lines e0 (e1 :: e2 :: (o.out.map outLine ++ o.log.map evLine)))
        rw [← e, List.length_append] at this
        rw [← e]
        simp only [List.length_cons, List.length_nil] at this
        omega
      repeat' (first | refine KO ?_ | ((with_reducible apply F1 20); exact rfl; exact EN; (intro w μc hw hse; have hsl := sl_of_row (enc := encL) (xs := e0 :: e1 :: e2 :: (o.out.map outLine ++ o.log.map evLine)) hse.hd (by simp; omega) (by simp) rfl; have hcc := hok3.cap; exact joinL hsl hcc (by omega) (by omega) (by omega) w hw)) | (refine KV (b := by first | ((with_reducible apply v_addL); exact rfl; exact rfl; (simp only [List.length_cons, List.length_nil]; omega))) (c := ?_)) | refine KI ?_ | refine NB fun b => ?_ | ((refine KB ?_ ?_ <;> intro hp)) | refine KG ?_ | fail)
      all_goals first | (exfalso; omega) | skip
      refine ret_s rfl rfl ?_
      rw [join_lines, ← e]
      rfl
theorem text_no (o : OutP) (A B : Option Addr) (c d : Nat) (w : World) (μ : Mem) (hμ : MOk μ w)
    (hmay : ∀ (w : World) (μc : Mem), MOk μc w → MLe μ μc → Calls Tryz.prog 13 #[.agg (encO o A B c d).toArray] w fun en w' => en = .returned (.bool false) ∧ Below w.heap.size w w') :
    Calls Tryz.prog 8 #[.agg (encO o A B c d).toArray] w fun en w' => en = .returned (.string (ofB [])) ∧ Below w.heap.size w w' := by
  refine call_intro (args := [.agg (encO o A B c d).toArray]) Tryz.func8 rfl Tryz.ntmps8 (by simp) hμ ?_
  repeat' (first | refine KO ?_ | ((with_reducible apply F1 13); exact rfl; exact EN; (exact fun w μc hw hse => hmay w μc hw hse.le)) | refine KI ?_ | refine NB fun b => ?_ | ((refine KB ?_ ?_ <;> intro hp)) | refine KG ?_ | fail)
  all_goals first | (exfalso; first | omega | contradiction) | exact ret_s rfl rfl rfl
noncomputable def txt (o : OutP) : List UInt8 := if mayB o = true then textB o else []
theorem otext_any (o : OutP) (A B : Option Addr) (c d : Nat) (hb : MayO keyR o → (textB o).length ≤ 1000000000 ∧ (linesB o).length ≤ 200000) (hn : o.log.length ≤ 1000000000) (hks : ∀ e ∈ o.log, e.key.s.size ≤ 9223372036854775807) (w : World) (μ : Mem) (hμ : MOk μ w) (hT : TabOk μ) (hA : Sl encStr 1 μ A o.out.length o.out) (hB : Sl encE 5 μ B o.log.length o.log) :
    Calls Tryz.prog 8 #[.agg (encO o A B c d).toArray] w fun en w' => en = .returned (.string (ofB (txt o))) ∧ Below w.heap.size w w' := by
  unfold txt
  have hmay := fun (w : World) (μc : Mem) (hw : MOk μc w) (hle : MLe μ μc) => may_spec o A B c d w μc hw (hB.mono hle) hn hks
  cases hm : mayB o with
  | false =>
    rw [hm] at hmay
    exact text_no o A B c d w μ hμ hmay
  | true =>
    rw [hm] at hmay
    rw [if_pos rfl]
    obtain ⟨h1, h2⟩ := hb (mayB_may hm)
    by_cases he : o.e = 0
    · exact text_o o A B c d he hm h1 h2 w μ hμ hT hA hB hmay
    · exact text_e o A B c d he hm h1 w μ hμ hT hmay
theorem otext_spec (o : OutP) (A B : Option Addr) (c d : Nat) (hM : MayO keyR o) (hb : (textB o).length ≤ 200000) (hn : o.log.length ≤ 1000000000) (hks : ∀ e ∈ o.log, e.key.s.size ≤ 9223372036854775807) (w : World) (μ : Mem) (hμ : MOk μ w) (hT : TabOk μ) (hA : Sl encStr 1 μ A o.out.length o.out) (hB : Sl encE 5 μ B o.log.length o.log) :
    Calls Tryz.prog 8 #[.agg (encO o A B c d).toArray] w fun en w' => en = .returned (.string (ofB (textB o))) ∧ Below w.heap.size w w' := by
  have h := otext_any o A B c d (fun _ => ⟨by omega, Nat.le_trans (lines_len _) hb⟩) hn hks w μ hμ hT hA hB
  unfold txt at h
  rw [if_pos (mayB_t hM)] at h
  exact h
end Go.Proofs.YtmihpkdhfomcgaaGreatDoor
namespace Go.Proofs.YtmihpkdhfomcgaaGreatDoor
open Go.RowKit Go.Vcg Ou
theorem log_len {o : OutP} (h : MayO keyR o) : o.log.length ≤ (textB o).length := by
  have hl := lines_len (linesB o)
  unfold MayO at h
  split at h
  · rw [h.2.2.2.2.2.1]; simp
  · rename_i he
    have e : o.log.length ≤ (linesB o).length := by
      unfold linesB
      rw [if_neg he]
      simp only [List.length_cons, List.length_append, List.length_map]
      omega
    exact Nat.le_trans e hl
def exB : List UInt8 := [101, 110, 100, 115, 32, 110, 111, 114, 109, 97, 108, 32, 34, 50, 34, 10, 115, 116, 101, 112, 115, 32, 48, 10, 109, 97, 100, 101, 32, 48, 10]
def exO : OutP := { zeroO with text := ofB [50] }
def erO : OutP := { zeroO with e := 23, at_ := 7 }
theorem ex_read : readO keyR exB = .ok exO := by kernel_rfl
theorem er_may : MayO keyR erO := by
  unfold MayO
  rw [if_pos (by decide)]
  exact ⟨by decide, by decide, rfl, rfl, rfl, rfl, rfl, rfl⟩
theorem er_text : textB erO = [101, 114, 114, 111, 114, 32, 115, 121, 110, 116, 97, 120, 32, 55, 10] := by decide +kernel
attribute [local irreducible] G GC GQ GA GAop Calls IntKind.wrap Int.decLt Int.decLe readO textB
theorem oawake_spec (w : World) (μ : Mem) (hμ : MOk μ w) (hm : MaxOk μ) (hT : TabOk μ) :
    Calls Tryz.prog 4 #[] w fun e w' => e = .returned (.bool true) ∧ Below w.heap.size w w' := by
  refine call_intro (args := []) Tryz.func4 rfl Tryz.ntmps4 (by simp) hμ ?_
  have hrd := fun (w : World) (hw : MOk μ w) => oread_spec exB (by decide) w μ hw hm hT
  rw [ex_read] at hrd
  have htx := fun (w : World) (μc : Mem) (hw : MOk μc w) (hle : MLe μ μc) => otext_spec erO none none 0 0 er_may (by rw [er_text]; decide) (by decide) (fun e h => by cases h) w μc hw (hT.mono hle) (Sl.nil _ _ _ _) (Sl.nil _ _ _ _)
  rw [er_text] at htx
  repeat' (first | refine KO ?_ | ((with_reducible apply F2 5); exact rfl; exact EN; (exact fun w hw => hrd w hw); rintro v1 μ1 hle1 ⟨a, rfl, A, c, B, d, rfl, hA, hB⟩) | ((with_reducible apply F1 8); exact rfl; exact EN; (exact fun w μc hw hse => htx w μc hw (hle1.trans hse.le))) | refine KI ?_ | refine NB fun b => ?_ | ((refine KB ?_ ?_ <;> intro hp)) | refine KG ?_ | fail)
  all_goals first | (exfalso; first | omega | contradiction | (exact absurd ‹_› ‹¬ _›)) | (refine ret_s rfl rfl ?_; first | rfl | (congr 1; simp [*]; done) | (simp_all; done))
theorem same_zero (w : World) (μ : Mem) (hμ : MOk μ w) :
    Calls Tryz.prog 7 #[.agg #[.int .i64 0, .int .i64 0, .int .i64 0, .string ⟨#[]⟩, .slice none 0 0, .slice none 0 0, .int .i64 0, .int .i64 0], .agg #[.int .i64 0, .int .i64 0, .int .i64 0, .string ⟨#[]⟩, .slice none 0 0, .slice none 0 0, .int .i64 0, .int .i64 0]] w fun e w' => e = .returned (.bool true) ∧ Below w.heap.size w w' := by
  refine call_intro (args := [.agg #[.int .i64 0, .int .i64 0, .int .i64 0, .string ⟨#[]⟩, .slice none 0 0, .slice none 0 0, .int .i64 0, .int .i64 0], .agg #[.int .i64 0, .int .i64 0, .int .i64 0, .string ⟨#[]⟩, .slice none 0 0, .slice none 0 0, .int .i64 0, .int .i64 0]]) Tryz.func7 rfl Tryz.ntmps7 (by simp) hμ ?_
  repeat' (first | refine KK ?_ | refine NB fun b => ?_ | ((refine KB ?_ ?_ <;> intro hp)) | refine KG ?_ | fail)
  all_goals first | (exfalso; first | omega | contradiction | (exact absurd ‹_› ‹¬ _›)) | skip
  refine gc_rounds 0 ?_
  repeat' (first | refine KK ?_ | refine NB fun b => ?_ | ((refine KB ?_ ?_ <;> intro hp)) | refine KG ?_ | fail)
  all_goals first | (exfalso; first | omega | contradiction | (exact absurd ‹_› ‹¬ _›)) | skip
  refine gc_rounds 0 ?_
  repeat' (first | refine KK ?_ | refine NB fun b => ?_ | ((refine KB ?_ ?_ <;> intro hp)) | refine KG ?_ | fail)
  all_goals first | (exfalso; first | omega | contradiction | (exact absurd ‹_› ‹¬ _›)) | (refine ret_s rfl rfl ?_; first | rfl | (congr 1; simp [*]; done) | (simp_all; done))
end Go.Proofs.YtmihpkdhfomcgaaGreatDoor
