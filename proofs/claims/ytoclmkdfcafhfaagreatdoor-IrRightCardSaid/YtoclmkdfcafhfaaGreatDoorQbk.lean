/- Package ir -/
import Derived.Test.YtoclmkdfcafhfaaGreatDoorQbj
set_option maxRecDepth 20000
set_option maxHeartbeats 2000000
namespace Go.Proofs.YtoclmkdfcafhfaaGreatDoor
open Go.RowKit Go.Vcg Go.Shelf Ou
theorem calls_eq (t : T) : Iq.callsF t = (if t.op = 129 ∨ t.op = 130 ∨ t.op = 131 then 1 else 0) + (t.kids.map Iq.callsF).sum := by
  cases t with
  | mk op a n m s kids => rw [Iq.callsF]; simp only [T.kids, T.op]; first | rfl | (congr 1; split <;> rfl)
theorem calls_le (t : T) : 0 ≤ Iq.callsF t ∧ Iq.callsF t ≤ t.size := T.ind2 (p := fun t => 0 ≤ Iq.callsF t ∧ Iq.callsF t ≤ t.size) (fun t ih => by
  rw [calls_eq, T.size_eq]
  have key : ∀ l : List T, (∀ k ∈ l, 0 ≤ Iq.callsF k ∧ Iq.callsF k ≤ k.size) → 0 ≤ (l.map Iq.callsF).sum ∧ (l.map Iq.callsF).sum ≤ ((l.map T.size).sum : Nat) := by
    intro l
    induction l with
    | nil => intro _; simp
    | cons a r ih2 =>
      intro h
      have h1 := h a (List.mem_cons_self ..)
      have h2 := ih2 (fun k hk => h k (List.mem_cons_of_mem _ hk))
      simp only [List.map_cons, List.sum_cons]
      omega
  have := key t.kids ih
  split <;> omega) t
theorem calls_pos : ∀ l : List T, 0 ≤ (l.map Iq.callsF).sum
  | [] => by simp
  | a :: r => by
    have h1 := (calls_le a).1
    have h2 := calls_pos r
    simp only [List.map_cons, List.sum_cons]
    omega
attribute [local irreducible] rowI Iq.nodeT Iq.kidsT G GC GQ GA GAop Calls IntKind.wrap Int.decLt Int.decLe
theorem rname_at (w : World) (μ : Mem) (hμ : MOk μ w) (hm : MaxM μ) (op : Int) :
    Calls Tryz.prog 9 #[.int .i64 op] w fun e w' => e = .returned (.string (ofB (rowI op).1)) ∧ Below w.heap.size w w' := rname_spec w μ hμ hm op
def RLinesC (N : Nat) : Prop := ∀ (t : T) (u : Value) (deep : Int) (w : World) (μ : Mem), MOk μ w → MaxQ μ → KR μ t.kids u → Iq.OkT rowI deep t → t.size ≤ N → (Iq.nodeT rowI t).length ≤ 1000000000000 →
  Calls Tryz.prog 46 #[.agg (encT t u).toArray] w fun e w' => e = .returned (.string (ofB (Iq.nodeT rowI t))) ∧ Below w.heap.size w w'
theorem rlines_spec : ∀ (N : Nat), RLinesC N := by
  intro N
  induction N with
  | zero => intro t u deep w μ hμ hmq hk hok hN; exact absurd hN (by rw [T.size_eq]; omega)
  | succ N ih =>
    intro t u deep w μ hμ hmq hk hok hN hlen
    have ho := hk.one
    have hmm := maxM_ofQ2 hmq
    obtain ⟨h1, h2, h3, h4, h5, h6⟩ := okT_parts hok
    obtain ⟨A0, cK, rfl, hlc, hget⟩ := hk.form
    have hnT := nodeT_eq t
    have hlT : Iq.lineT rowI t.op t.n t.m t.kids.length (byS t.s) ++ [10] = ((((((((((rowI t.op).1 ++ [32]) ++ Lib.itoa t.n) ++ [32]) ++ Lib.itoa t.m) ++ [32]) ++ Lib.itoa (t.kids.length : Int)) ++ [32]) ++ quoteB (byS t.s)) ++ [10]) := by
      unfold Iq.lineT
      simp
    have hll := congrArg List.length hnT
    have hl2 := congrArg List.length hlT
    simp only [List.length_append, List.length_cons, List.length_nil] at hll hl2
    refine call_intro (args := [.agg (encT t (.slice A0 t.kids.length cK)).toArray]) Tryz.func46 rfl Tryz.ntmps46 (by simp) hμ ?_
    repeat' (first | ((with_reducible show GC _ _ (Code.seq (Code.region 1 _ _) _) _ _ _ _); (apply gc_stop)) | refine KK ?_ | refine NB fun b => ?_ | (refine KB ?_ ?_ <;> intro hp) | refine KG ?_ | fail)
    obtain ⟨bn, hbn⟩ : ∃ x, x = b := ⟨_, rfl⟩
    rw [← hbn]
    clear hbn
    refine gcs (gc_seq ?_)
    refine gc_draw 26 _ (by kernel_rfl) rfl (List.Sublist.cons_cons _ (List.nil_sublist _)) ?_
    all_goals (first | refine D1 0 ?_ | (refine DV (k := 0) (b := by first | ((with_reducible apply v_addL); exact rfl; exact rfl; (simp only [List.length_append, List.length_cons, List.length_nil]; omega))) (c := ?_)) | refine DD 0 ?_ | fail)
    all_goals (first | refine D1 1 ?_ | (refine DV (k := 1) (b := by first | ((with_reducible apply v_addL); exact rfl; exact rfl; (simp only [List.length_append, List.length_cons, List.length_nil]; omega))) (c := ?_)) | (refine D3 1 (DW (b := by first | ((with_reducible apply v_addL); exact rfl; exact rfl; (simp only [List.length_append, List.length_cons, List.length_nil]; omega))) (c := ?_))) | refine DD 1 ?_ | fail)
    all_goals (first | refine D1 4 ?_ | (refine DV (k := 4) (b := by first | ((with_reducible apply v_addL); exact rfl; exact rfl; (simp only [List.length_append, List.length_cons, List.length_nil]; omega))) (c := ?_)) | refine DD 4 ?_ | fail)
    all_goals (first | refine D1 5 ?_ | (refine DV (k := 5) (b := by first | ((with_reducible apply v_addL); exact rfl; exact rfl; (simp only [List.length_append, List.length_cons, List.length_nil]; omega))) (c := ?_)) | (refine D3 5 (DW (b := by first | ((with_reducible apply v_addL); exact rfl; exact rfl; (simp only [List.length_append, List.length_cons, List.length_nil]; omega))) (c := ?_))) | refine DD 5 ?_ | fail)
    all_goals (first | refine D1 9 ?_ | (refine DV (k := 9) (b := by first | ((with_reducible apply v_addL); exact rfl; exact rfl; (simp only [List.length_append, List.length_cons, List.length_nil]; omega))) (c := ?_)) | refine DD 9 ?_ | fail)
    all_goals (first | refine D1 10 ?_ | (refine DV (k := 10) (b := by first | ((with_reducible apply v_addL); exact rfl; exact rfl; (simp only [List.length_append, List.length_cons, List.length_nil]; omega))) (c := ?_)) | (refine D3 10 (DW (b := by first | ((with_reducible apply v_addL); exact rfl; exact rfl; (simp only [List.length_append, List.length_cons, List.length_nil]; omega))) (c := ?_))) | refine DD 10 ?_ | fail)
    all_goals (first | refine D1 14 ?_ | (refine DV (k := 14) (b := by first | ((with_reducible apply v_addL); exact rfl; exact rfl; (simp only [List.length_append, List.length_cons, List.length_nil]; omega))) (c := ?_)) | refine DD 14 ?_ | fail)
    all_goals (first | refine D1 15 ?_ | (refine DV (k := 15) (b := by first | ((with_reducible apply v_addL); exact rfl; exact rfl; (simp only [List.length_append, List.length_cons, List.length_nil]; omega))) (c := ?_)) | (refine D3 15 (DW (b := by first | ((with_reducible apply v_addL); exact rfl; exact rfl; (simp only [List.length_append, List.length_cons, List.length_nil]; omega))) (c := ?_))) | refine DD 15 ?_ | fail)
    all_goals (first | refine D1 16 ?_ | (refine DV (k := 16) (b := by first | ((with_reducible apply v_addL); exact rfl; exact rfl; (simp only [List.length_append, List.length_cons, List.length_nil]; omega))) (c := ?_)) | refine DD 16 ?_ | fail)
    all_goals (first | refine D1 20 ?_ | (refine DV (k := 20) (b := by first | ((with_reducible apply v_addL); exact rfl; exact rfl; (simp only [List.length_append, List.length_cons, List.length_nil]; omega))) (c := ?_)) | refine DD 20 ?_ | fail)
    all_goals (first | refine D1 21 ?_ | (refine DV (k := 21) (b := by first | ((with_reducible apply v_addL); exact rfl; exact rfl; (simp only [List.length_append, List.length_cons, List.length_nil]; omega))) (c := ?_)) | (refine D3 21 (DW (b := by first | ((with_reducible apply v_addL); exact rfl; exact rfl; (simp only [List.length_append, List.length_cons, List.length_nil]; omega))) (c := ?_))) | refine DD 21 ?_ | fail)
    all_goals (first | (refine D3 2 ?_; refine D5 ?_; (first | ((with_reducible apply F1 9); exact rfl; exact EN; (exact fun w μc hw hse => rname_at w μc hw (hmm.mono hse.le) _)) | ((with_reducible apply F1 44); exact rfl; exact EN; (exact fun w μc hw hse => rnumber_spec _ (by first | exact h2 | exact h3 | omega) w μc hw)) | ((with_reducible apply F1 45); exact rfl; exact EN; (exact fun w μc hw hse => rquote_spec _ (by omega) w μc hw))); refine D9 ?_))
    all_goals (first | refine D1 3 ?_ | (refine DV (k := 3) (b := by first | ((with_reducible apply v_addL); exact rfl; exact rfl; (simp only [List.length_append, List.length_cons, List.length_nil]; omega))) (c := ?_)) | refine DD 3 ?_ | fail)
    all_goals (first | (refine D3 6 ?_; refine D5 ?_; (first | ((with_reducible apply F1 9); exact rfl; exact EN; (exact fun w μc hw hse => rname_at w μc hw (hmm.mono hse.le) _)) | ((with_reducible apply F1 44); exact rfl; exact EN; (exact fun w μc hw hse => rnumber_spec _ (by first | exact h2 | exact h3 | omega) w μc hw)) | ((with_reducible apply F1 45); exact rfl; exact EN; (exact fun w μc hw hse => rquote_spec _ (by omega) w μc hw))); refine D9 ?_))
    all_goals (first | refine D1 7 ?_ | (refine DV (k := 7) (b := by first | ((with_reducible apply v_addL); exact rfl; exact rfl; (simp only [List.length_append, List.length_cons, List.length_nil]; omega))) (c := ?_)) | refine DD 7 ?_ | fail)
    all_goals (first | refine D1 8 ?_ | (refine DV (k := 8) (b := by first | ((with_reducible apply v_addL); exact rfl; exact rfl; (simp only [List.length_append, List.length_cons, List.length_nil]; omega))) (c := ?_)) | refine DD 8 ?_ | fail)
    all_goals (first | (refine D3 11 ?_; refine D5 ?_; (first | ((with_reducible apply F1 9); exact rfl; exact EN; (exact fun w μc hw hse => rname_at w μc hw (hmm.mono hse.le) _)) | ((with_reducible apply F1 44); exact rfl; exact EN; (exact fun w μc hw hse => rnumber_spec _ (by first | exact h2 | exact h3 | omega) w μc hw)) | ((with_reducible apply F1 45); exact rfl; exact EN; (exact fun w μc hw hse => rquote_spec _ (by omega) w μc hw))); refine D9 ?_))
    all_goals (first | refine D1 12 ?_ | (refine DV (k := 12) (b := by first | ((with_reducible apply v_addL); exact rfl; exact rfl; (simp only [List.length_append, List.length_cons, List.length_nil]; omega))) (c := ?_)) | refine DD 12 ?_ | fail)
    all_goals (first | refine D1 13 ?_ | (refine DV (k := 13) (b := by first | ((with_reducible apply v_addL); exact rfl; exact rfl; (simp only [List.length_append, List.length_cons, List.length_nil]; omega))) (c := ?_)) | refine DD 13 ?_ | fail)
    all_goals (first | (refine D3 17 ?_; refine D5 ?_; (first | ((with_reducible apply F1 9); exact rfl; exact EN; (exact fun w μc hw hse => rname_at w μc hw (hmm.mono hse.le) _)) | ((with_reducible apply F1 44); exact rfl; exact EN; (exact fun w μc hw hse => rnumber_spec _ (by first | exact h2 | exact h3 | omega) w μc hw)) | ((with_reducible apply F1 45); exact rfl; exact EN; (exact fun w μc hw hse => rquote_spec _ (by omega) w μc hw))); refine D9 ?_))
    all_goals (first | refine D1 18 ?_ | (refine DV (k := 18) (b := by first | ((with_reducible apply v_addL); exact rfl; exact rfl; (simp only [List.length_append, List.length_cons, List.length_nil]; omega))) (c := ?_)) | refine DD 18 ?_ | fail)
    all_goals (first | refine D1 19 ?_ | (refine DV (k := 19) (b := by first | ((with_reducible apply v_addL); exact rfl; exact rfl; (simp only [List.length_append, List.length_cons, List.length_nil]; omega))) (c := ?_)) | refine DD 19 ?_ | fail)
    all_goals (first | (refine D3 22 ?_; refine D5 ?_; (first | ((with_reducible apply F1 9); exact rfl; exact EN; (exact fun w μc hw hse => rname_at w μc hw (hmm.mono hse.le) _)) | ((with_reducible apply F1 44); exact rfl; exact EN; (exact fun w μc hw hse => rnumber_spec _ (by first | exact h2 | exact h3 | omega) w μc hw)) | ((with_reducible apply F1 45); exact rfl; exact EN; (exact fun w μc hw hse => rquote_spec _ (by omega) w μc hw))); refine D9 ?_))
    all_goals (first | refine D1 23 ?_ | (refine DV (k := 23) (b := by first | ((with_reducible apply v_addL); exact rfl; exact rfl; (simp only [List.length_append, List.length_cons, List.length_nil]; omega))) (c := ?_)) | refine DD 23 ?_ | fail)
    all_goals (first | refine D1 24 ?_ | (refine DV (k := 24) (b := by first | ((with_reducible apply v_addL); exact rfl; exact rfl; (simp only [List.length_append, List.length_cons, List.length_nil]; omega))) (c := ?_)) | refine DD 24 ?_ | fail)
    all_goals refine DD 25 ?_
    all_goals refine D8 ?_
    all_goals rw [← hlT]
    all_goals repeat' (first | refine KK ?_ | refine NB fun b => ?_ | (refine KB ?_ ?_ <;> intro hp) | refine KG ?_ | fail)
    refine gc_loop (ι := Nat × List UInt8) (fun q => q.1 ≤ t.kids.length ∧ q.2 ++ Iq.kidsT rowI (t.kids.drop q.1) = Iq.nodeT rowI t) (fun q => t.kids.length - q.1) (fun _ => μ) (fun q => [(4, .int .i64 (q.1 : Int)), (3, .string (ofB q.2)), (1, .pointer (some ⟨bn, 0, none⟩))]) (fun q => [.inl ⟨bn, 42, 6, idx 0 (encT t (.slice A0 t.kids.length cK))⟩]) (0, Iq.lineT rowI t.op t.n t.m t.kids.length (byS t.s) ++ [10]) ⟨by simp, by rw [hnT]; simp⟩ (fun a w hs => hs.sel PU PS) ?_
    rintro ⟨j, oj⟩ ⟨hj, hoj⟩
    dsimp only at hj hoj ⊢
    by_cases hlt : j < t.kids.length
    · have hkk : t.kids[j]? = some t.kids[j] := List.getElem?_eq_getElem hlt
      have hksz := T.size_kid hkk
      have hkok := h6 _ (List.mem_of_getElem? hkk)
      generalize t.kids[j] = kd at hkk hksz hkok
      obtain ⟨ad, x, rfl, hm, hox, hkx⟩ := hget j kd hkk
      have hkT : Iq.kidsT rowI (t.kids.drop j) = Iq.nodeT rowI kd ++ Iq.kidsT rowI (t.kids.drop (j + 1)) := by rw [dropc hkk, Iq.kidsT]
      rw [hkT] at hoj
      have hlj := congrArg List.length hoj
      simp only [List.length_append] at hlj
      repeat' (first | refine KO ?_ | ((with_reducible apply F1 46); exact rfl; exact EN; (exact fun w μc hw hse => ih kd x (deep + 1) w μc hw (hmq.mono hse.le) (hkx.mono hse.le) hkok (by omega) (by omega))) | (refine KV (b := by first | exact U1 j | exact U4 hm | ((with_reducible apply v_addL); exact rfl; exact rfl; omega)) (c := ?_)) | refine KI ?_ | refine NB fun b => ?_ | (refine KB ?_ ?_ <;> intro hp) | refine KG ?_ | fail)
      all_goals first | (exfalso; omega) | exact J2 (j + 1, oj ++ Iq.nodeT rowI kd) ⟨by dsimp only; omega, by rw [List.append_assoc]; exact hoj⟩ (by dsimp only; omega)
    · rw [List.drop_of_length_le (by omega), Iq.kidsT, List.append_nil] at hoj
      subst hoj
      repeat' (first | refine KK ?_ | refine NB fun b => ?_ | (refine KB ?_ ?_ <;> intro hp) | refine KG ?_ | fail)
      all_goals first | (exfalso; omega) | exact ret_s rfl rfl rfl
def pcallsC (N : Nat) : Prop := ∀ (t : T) (u : Value) (w : World) (μ : Mem), MOk μ w → KR μ t.kids u → t.size ≤ N → t.size ≤ 1000000 →
  Calls Tryz.prog 21 #[.agg (encT t u).toArray] w fun e w' => e = .returned (.int .i64 (Iq.callsF t)) ∧ Below w.heap.size w w'
theorem pcalls_spec : ∀ (N : Nat), pcallsC N := by
  intro N
  induction N with
  | zero => intro t u w μ hμ hk hN; exact absurd hN (by rw [T.size_eq]; omega)
  | succ N ih =>
    intro t u w μ hμ hk hN hsz
    have ho := hk.one
    obtain ⟨A0, cK, rfl, hlc, hget⟩ := hk.form
    have hcF := calls_eq t
    have hcs := calls_le t
    have hkl := kids_le t
    have hcn := calls_pos t.kids
    refine call_intro (args := [.agg (encT t (.slice A0 t.kids.length cK)).toArray]) Tryz.func21 rfl Tryz.ntmps21 (by simp) hμ ?_
    by_cases h5 : t.op = 129 ∨ t.op = 130 ∨ t.op = 131
    · rw [if_pos h5] at hcF
      rcases h5 with h4 | h4 | h4
      all_goals repeat' (first | refine KK ?_ | refine NB fun b => ?_ | (refine KB ?_ ?_ <;> intro hp) | refine KG ?_ | fail)
      all_goals try (exfalso; omega)
      all_goals (
      refine gc_loop (ι := Nat × Int) (fun q => q.1 ≤ t.kids.length ∧ 0 ≤ q.2 ∧ q.2 + ((t.kids.drop q.1).map Iq.callsF).sum = Iq.callsF t) (fun q => t.kids.length - q.1) (fun _ => μ) (fun q => [(17, .int .i64 (q.1 : Int)), (16, .int .i64 (t.kids.length : Int)), (15, .slice A0 t.kids.length cK), (3, .int .i64 q.2), (1, .pointer (some ⟨b, 0, none⟩))]) (fun q => [.inl ⟨b, 42, 6, idx 0 (encT t (.slice A0 t.kids.length cK))⟩]) (0, 1) ⟨by simp, by omega, by rw [hcF]; simp⟩ (fun a w hs => hs.sel PU PS) ?_
      rintro ⟨j, sj⟩ ⟨hj, hs0, hsj⟩
      dsimp only at hj hs0 hsj ⊢
      by_cases hlt : j < t.kids.length
      · have hkk : t.kids[j]? = some t.kids[j] := List.getElem?_eq_getElem hlt
        have hksz := T.size_kid hkk
        generalize t.kids[j] = kd at hkk hksz
        obtain ⟨ad, x, rfl, hm, hox, hkx⟩ := hget j kd hkk
        rw [dropc hkk, List.map_cons, List.sum_cons] at hsj
        have hkc := calls_le kd
        have hrest := calls_pos (t.kids.drop (j + 1))
        clear hcF
        repeat' (first | refine KO ?_ | ((with_reducible apply F1 21); exact rfl; exact EN; (exact fun w μc hw hse => ih kd x w μc hw (hkx.mono hse.le) (by omega) (by omega))) | (refine KV (b := by first | exact U1 j | exact U4 hm) (c := ?_)) | refine KI ?_ | refine NB fun b => ?_ | (refine KB ?_ ?_ <;> intro hp) | refine KG ?_ | fail)
        all_goals try (exfalso; omega)
        all_goals exact J2 (j + 1, sj + Iq.callsF kd) ⟨by (try dsimp only); omega, by (try dsimp only); omega, by (try dsimp only); omega⟩ (by (try dsimp only); omega)
      · rw [List.drop_of_length_le (by omega)] at hsj
        have hsj2 : sj = Iq.callsF t := by simpa using hsj
        subst hsj2
        repeat' (first | refine KK ?_ | refine NB fun b => ?_ | (refine KB ?_ ?_ <;> intro hp) | refine KG ?_ | fail)
        all_goals first | (exfalso; omega) | exact ret_s rfl rfl rfl)
    · rw [if_neg h5] at hcF
      all_goals repeat' (first | refine KK ?_ | refine NB fun b => ?_ | (refine KB ?_ ?_ <;> intro hp) | refine KG ?_ | fail)
      all_goals try (exfalso; omega)
      all_goals (
      refine gc_loop (ι := Nat × Int) (fun q => q.1 ≤ t.kids.length ∧ 0 ≤ q.2 ∧ q.2 + ((t.kids.drop q.1).map Iq.callsF).sum = Iq.callsF t) (fun q => t.kids.length - q.1) (fun _ => μ) (fun q => [(17, .int .i64 (q.1 : Int)), (16, .int .i64 (t.kids.length : Int)), (15, .slice A0 t.kids.length cK), (3, .int .i64 q.2), (1, .pointer (some ⟨b, 0, none⟩))]) (fun q => [.inl ⟨b, 42, 6, idx 0 (encT t (.slice A0 t.kids.length cK))⟩]) (0, 0) ⟨by simp, by omega, by rw [hcF]; simp⟩ (fun a w hs => hs.sel PU PS) ?_
      rintro ⟨j, sj⟩ ⟨hj, hs0, hsj⟩
      dsimp only at hj hs0 hsj ⊢
      by_cases hlt : j < t.kids.length
      · have hkk : t.kids[j]? = some t.kids[j] := List.getElem?_eq_getElem hlt
        have hksz := T.size_kid hkk
        generalize t.kids[j] = kd at hkk hksz
        obtain ⟨ad, x, rfl, hm, hox, hkx⟩ := hget j kd hkk
        rw [dropc hkk, List.map_cons, List.sum_cons] at hsj
        have hkc := calls_le kd
        have hrest := calls_pos (t.kids.drop (j + 1))
        clear hcF
        repeat' (first | refine KO ?_ | ((with_reducible apply F1 21); exact rfl; exact EN; (exact fun w μc hw hse => ih kd x w μc hw (hkx.mono hse.le) (by omega) (by omega))) | (refine KV (b := by first | exact U1 j | exact U4 hm) (c := ?_)) | refine KI ?_ | refine NB fun b => ?_ | (refine KB ?_ ?_ <;> intro hp) | refine KG ?_ | fail)
        all_goals try (exfalso; omega)
        all_goals exact J2 (j + 1, sj + Iq.callsF kd) ⟨by (try dsimp only); omega, by (try dsimp only); omega, by (try dsimp only); omega⟩ (by (try dsimp only); omega)
      · rw [List.drop_of_length_le (by omega)] at hsj
        have hsj2 : sj = Iq.callsF t := by simpa using hsj
        subst hsj2
        repeat' (first | refine KK ?_ | refine NB fun b => ?_ | (refine KB ?_ ?_ <;> intro hp) | refine KG ?_ | fail)
        all_goals first | (exfalso; omega) | exact ret_s rfl rfl rfl)
def rcallsC (N : Nat) : Prop := ∀ (t : T) (u : Value) (w : World) (μ : Mem), MOk μ w → KR μ t.kids u → t.size ≤ N → t.size ≤ 1000000 →
  Calls Tryz.prog 22 #[.agg (encT t u).toArray] w fun e w' => e = .returned (.int .i64 (Iq.callsF t)) ∧ Below w.heap.size w w'
theorem rcalls_spec : ∀ (N : Nat), rcallsC N := by
  intro N
  induction N with
  | zero => intro t u w μ hμ hk hN; exact absurd hN (by rw [T.size_eq]; omega)
  | succ N ih =>
    intro t u w μ hμ hk hN hsz
    have ho := hk.one
    obtain ⟨A0, cK, rfl, hlc, hget⟩ := hk.form
    have hcF := calls_eq t
    have hcs := calls_le t
    have hkl := kids_le t
    have hcn := calls_pos t.kids
    refine call_intro (args := [.agg (encT t (.slice A0 t.kids.length cK)).toArray]) Tryz.func22 rfl Tryz.ntmps22 (by simp) hμ ?_
    by_cases h5 : t.op = 129 ∨ t.op = 130 ∨ t.op = 131
    · rw [if_pos h5] at hcF
      rcases h5 with h4 | h4 | h4
      all_goals repeat' (first | refine KK ?_ | refine NB fun b => ?_ | (refine KB ?_ ?_ <;> intro hp) | refine KG ?_ | fail)
      all_goals try (exfalso; omega)
      all_goals (
      refine gc_loop (ι := Nat × Int) (fun q => q.1 ≤ t.kids.length ∧ 0 ≤ q.2 ∧ q.2 + ((t.kids.drop q.1).map Iq.callsF).sum = Iq.callsF t) (fun q => t.kids.length - q.1) (fun _ => μ) (fun q => [(4, .int .i64 (q.1 : Int)), (3, .int .i64 q.2), (1, .pointer (some ⟨b, 0, none⟩))]) (fun q => [.inl ⟨b, 42, 6, idx 0 (encT t (.slice A0 t.kids.length cK))⟩]) (0, 1) ⟨by simp, by omega, by rw [hcF]; simp⟩ (fun a w hs => hs.sel PU PS) ?_
      rintro ⟨j, sj⟩ ⟨hj, hs0, hsj⟩
      dsimp only at hj hs0 hsj ⊢
      by_cases hlt : j < t.kids.length
      · have hkk : t.kids[j]? = some t.kids[j] := List.getElem?_eq_getElem hlt
        have hksz := T.size_kid hkk
        generalize t.kids[j] = kd at hkk hksz
        obtain ⟨ad, x, rfl, hm, hox, hkx⟩ := hget j kd hkk
        rw [dropc hkk, List.map_cons, List.sum_cons] at hsj
        have hkc := calls_le kd
        have hrest := calls_pos (t.kids.drop (j + 1))
        clear hcF
        repeat' (first | refine KO ?_ | ((with_reducible apply F1 22); exact rfl; exact EN; (exact fun w μc hw hse => ih kd x w μc hw (hkx.mono hse.le) (by omega) (by omega))) | (refine KV (b := by first | exact U1 j | exact U4 hm) (c := ?_)) | refine KI ?_ | refine NB fun b => ?_ | (refine KB ?_ ?_ <;> intro hp) | refine KG ?_ | fail)
        all_goals try (exfalso; omega)
        all_goals exact J2 (j + 1, sj + Iq.callsF kd) ⟨by (try dsimp only); omega, by (try dsimp only); omega, by (try dsimp only); omega⟩ (by (try dsimp only); omega)
      · rw [List.drop_of_length_le (by omega)] at hsj
        have hsj2 : sj = Iq.callsF t := by simpa using hsj
        subst hsj2
        repeat' (first | refine KK ?_ | refine NB fun b => ?_ | (refine KB ?_ ?_ <;> intro hp) | refine KG ?_ | fail)
        all_goals first | (exfalso; omega) | exact ret_s rfl rfl rfl)
    · rw [if_neg h5] at hcF
      all_goals repeat' (first | refine KK ?_ | refine NB fun b => ?_ | (refine KB ?_ ?_ <;> intro hp) | refine KG ?_ | fail)
      all_goals try (exfalso; omega)
      all_goals (
      refine gc_loop (ι := Nat × Int) (fun q => q.1 ≤ t.kids.length ∧ 0 ≤ q.2 ∧ q.2 + ((t.kids.drop q.1).map Iq.callsF).sum = Iq.callsF t) (fun q => t.kids.length - q.1) (fun _ => μ) (fun q => [(4, .int .i64 (q.1 : Int)), (3, .int .i64 q.2), (1, .pointer (some ⟨b, 0, none⟩))]) (fun q => [.inl ⟨b, 42, 6, idx 0 (encT t (.slice A0 t.kids.length cK))⟩]) (0, 0) ⟨by simp, by omega, by rw [hcF]; simp⟩ (fun a w hs => hs.sel PU PS) ?_
      rintro ⟨j, sj⟩ ⟨hj, hs0, hsj⟩
      dsimp only at hj hs0 hsj ⊢
      by_cases hlt : j < t.kids.length
      · have hkk : t.kids[j]? = some t.kids[j] := List.getElem?_eq_getElem hlt
        have hksz := T.size_kid hkk
        generalize t.kids[j] = kd at hkk hksz
        obtain ⟨ad, x, rfl, hm, hox, hkx⟩ := hget j kd hkk
        rw [dropc hkk, List.map_cons, List.sum_cons] at hsj
        have hkc := calls_le kd
        have hrest := calls_pos (t.kids.drop (j + 1))
        clear hcF
        repeat' (first | refine KO ?_ | ((with_reducible apply F1 22); exact rfl; exact EN; (exact fun w μc hw hse => ih kd x w μc hw (hkx.mono hse.le) (by omega) (by omega))) | (refine KV (b := by first | exact U1 j | exact U4 hm) (c := ?_)) | refine KI ?_ | refine NB fun b => ?_ | (refine KB ?_ ?_ <;> intro hp) | refine KG ?_ | fail)
        all_goals try (exfalso; omega)
        all_goals exact J2 (j + 1, sj + Iq.callsF kd) ⟨by (try dsimp only); omega, by (try dsimp only); omega, by (try dsimp only); omega⟩ (by (try dsimp only); omega)
      · rw [List.drop_of_length_le (by omega)] at hsj
        have hsj2 : sj = Iq.callsF t := by simpa using hsj
        subst hsj2
        repeat' (first | refine KK ?_ | refine NB fun b => ?_ | (refine KB ?_ ?_ <;> intro hp) | refine KG ?_ | fail)
        all_goals first | (exfalso; omega) | exact ret_s rfl rfl rfl)
end Go.Proofs.YtoclmkdfcafhfaaGreatDoor
