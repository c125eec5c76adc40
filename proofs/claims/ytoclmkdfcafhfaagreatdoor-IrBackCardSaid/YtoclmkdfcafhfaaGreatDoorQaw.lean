/- Package ir: a line of words, the lines of a node: the program's writer. -/
import Derived.Test.YtoclmkdfcafhfaaGreatDoorQav
import Derived.Test.YtoclmkdfcafhfaaGreatDoorQat
set_option maxRecDepth 20000
set_option maxHeartbeats 2000000
namespace Go.Proofs.YtoclmkdfcafhfaaGreatDoor
section
open Go.RowKit Go.Vcg Go.Shelf Ou
def lineB (ws : List (List UInt8)) : List UInt8 := Lib.join ws [32] ++ [10]
attribute [local irreducible] rowI G GC GQ GA GAop Calls IntKind.wrap Int.decLt Int.decLe
theorem pline_spec (k : Nat) (p v : Value) (out : List UInt8) (ws : List (List UInt8)) (A : Option Addr) (n c : Nat) (hp : IsP k p) (w : World) (μ : Mem) (hμ : MOk μ w) (hO : Go.Vcg.Own μ (Bld k p v out []) w) (hS : Sl encW 1 μ A n ws) (hc : n ≤ c) (hn : 0 < n) (hnb : n ≤ 200000) (hl : out.length + (Lib.join ws [32]).length + 1 ≤ 140737488355328) :
    Calls Tryz.prog 39 #[.pointer (some ⟨k, 0, none⟩), .slice A n c] w fun e w' => ∃ r μ' i, e = .returned r ∧ BackM (idsOf (Bld k p v out [])) w w' μ (Bld k (.pointer (some ⟨k, 0, none⟩)) i (out ++ lineB ws) []) μ' ∧ True := by
  have hcnt := ids_count hO.diff
  have hj := fun (w : World) (μc : Mem) (hw : MOk μc w) (hle : MLe μ μc) => joinW (hS.mono hle) hc hn hnb (by omega) w hw
  generalize hJ : Lib.join ws [32] = J at hj hl
  have hsz : (⟨J.toArray⟩ : ByteArray).size = J.length := by simp [ByteArray.size]
  refine call_introM (args := [.pointer (some ⟨k, 0, none⟩), .slice A n c]) Tryz.func39 rfl Tryz.ntmps39 (by simp) hμ hO ?_
  repeat' (first | refine KO ?_ | ((with_reducible apply F1 71); exact rfl; exact EN; (exact fun w μc hw hse => hj w μc hw hse.le)) | (refine CF 70 ?_; (with_reducible apply g_enter_bor 2); exact rfl; exact rfl; exact rfl; ((with_reducible apply e_call2); kernel_rfl; exact rfl; exact rfl); exact rfl; (exact fun w hw hO => wstring_spec k _ _ _ ⟨J.toArray⟩ hp (by omega) w _ hw hO); (rintro v2 μ2 i2 hle2 rfl); (dsimp only [List.cons_append, List.nil_append])) | (refine CF 72 ?_; (with_reducible apply g_enter_bor 2); exact rfl; exact rfl; exact rfl; ((with_reducible apply e_call2); kernel_rfl; exact rfl; exact rfl); exact rfl; (exact fun w hw hO => wbyte_spec k _ _ _ (10 : Int) 10 (.inr rfl) rfl (by rw [List.length_append, show (bl ⟨J.toArray⟩).length = J.length by simp [bl]]; omega) w _ hw hO); (rintro v2 μ2 i2 hle2 rfl); (dsimp only [List.cons_append, List.nil_append])) | refine KI ?_ | (refine KB ?_ ?_ <;> intro hp) | refine KG ?_ | fail)
  all_goals exact ret_bor0 (Post := fun _ _ _ => True) (Ls := fun i => Bld k (.pointer (some ⟨k, 0, none⟩)) i (out ++ lineB ws) []) 2 _ (.inr rfl) hcnt rfl rfl (by unfold lineB; rw [hJ, ← List.append_assoc] <;> rfl) (fun _ _ _ => trivial)
theorem lineB5 (a b c d e : List UInt8) : lineB [a, b, c, d, e] = a ++ 32 :: (b ++ 32 :: (c ++ 32 :: (d ++ 32 :: e))) ++ [10] := by
  simp [lineB, Lib.join_cons, Lib.joinTail]
theorem lineB2 (a b : List UInt8) : lineB [a, b] = a ++ 32 :: b ++ [10] := by
  simp [lineB, Lib.join_cons, Lib.joinTail]
theorem join_len (ws : List (List UInt8)) : (Lib.join ws [32]).length + 1 = (lineB ws).length := by simp [lineB]
theorem sl_words {μ : Mem} {b t sz : Nat} (ws : List (List UInt8)) (h : Bk.sh (.inl ⟨b, t, sz, idx 0 (ws.map fun l => Value.string (ofB l))⟩) μ) : Sl encW 1 μ (some ⟨b, 0, none⟩) ws.length ws := by
  refine Sl.of_own h rfl (fun i y hy j v hj => ?_)
  have hj1 : j = 0 := by have := (List.getElem?_eq_some_iff.1 hj).1; simp at this; omega
  subst hj1
  have hv : v = .string (ofB y) := by simpa using hj.symm
  subst hv
  have := lk_idx_of (ws.map fun l => Value.string (ofB l)) 0 i (.string (ofB y)) (by rw [List.getElem?_map, hy]; rfl)
  rw [Nat.mul_one]
  simpa using this
theorem op_rng {op : Int} (h : (rowI op).1 ≠ []) : -9223372036854775808 ≤ op ∧ op ≤ 9223372036854775807 := by
  rcases kinds op with ⟨k, x, rfl, h1, h2⟩ | ⟨h1, h2⟩
  · have h3 : k < 1000 := by
      rcases Nat.lt_or_ge k 1000 with h4 | h4
      · exact h4
      · exfalso
        have h5 := List.all_eq_true.1 in_all
        have : ∀ {l : List Row}, findR k l = some x → (∀ y ∈ l, Nat.ble 100 y.1 && Nat.ble y.1 172) → False := by
          intro l
          induction l with
          | nil => intro h; cases h
          | cons y r ih =>
            intro h hl
            obtain ⟨j, z⟩ := y
            unfold findR at h
            split at h
            · rename_i hj
              have hj2 := Nat.eq_of_beq_eq_true hj
              have := hl (j, z) (List.mem_cons_self ..)
              simp at this
              omega
            · exact ih h (fun y hy => hl y (List.mem_cons_of_mem _ hy))
        exact this h1 h5
    simp only [Int.ofNat_eq_natCast]
    omega
  · rw [h2] at h
    exact absurd rfl h
theorem name_at (w : World) (μ : Mem) (hμ : MOk μ w) (hm : MaxM μ) (op : Int) (ho : -9223372036854775808 ≤ op ∧ op ≤ 9223372036854775807) :
    Calls Tryz.prog 8 #[.int .i64 op] w fun e w' => e = .returned (.string (ofB (rowI op).1)) ∧ Below w.heap.size w w' := name_spec w μ hμ hm op ho
theorem maxM_ofQ2 {μ : Mem} (h : MaxQ μ) : MaxM μ := fun w hw => by
  obtain ⟨m, hm⟩ := h
  obtain ⟨c, t, f, h1, h2, h3⟩ := hm
  refine ⟨m, ?_⟩
  have h4 := hw _ _ h1
  show w.cell? ⟨0, 0, none⟩ = _
  dsimp only at h3 h4
  simp [World.cell?, h4, h3]
theorem nodeT_eq (t : T) : Iq.nodeT rowI t = Iq.lineT rowI t.op t.n t.m t.kids.length (byS t.s) ++ 10 :: Iq.kidsT rowI t.kids := by
  cases t with
  | mk op a n m s kids => rw [Iq.nodeT]; rfl
theorem line_node (t : T) : lineB [(rowI t.op).1, Lib.itoa t.n, Lib.itoa t.m, Lib.itoa t.kids.length, quoteB (byS t.s)] = Iq.lineT rowI t.op t.n t.m t.kids.length (byS t.s) ++ [10] := by
  rw [lineB5]
  rfl
theorem okT_parts {t : T} {deep : Int} (h : Iq.OkT rowI deep t) : (rowI t.op).1 ≠ [] ∧ (-9007199254740992 ≤ t.n ∧ t.n ≤ 9007199254740992) ∧ (-9007199254740992 ≤ t.m ∧ t.m ≤ 9007199254740992) ∧ t.kids.length ≤ 1048576 ∧ t.s.size ≤ 65536 ∧ ∀ k ∈ t.kids, Iq.OkT rowI (deep + 1) k := by
  cases t with
  | mk op a n m s kids =>
    obtain ⟨h1, h2, h3, h4, h5, h6, h7⟩ := h
    refine ⟨h1, h2, h3, h4, h5, ?_⟩
    have key : ∀ (l : List T), Iq.OkL rowI deep l → ∀ k ∈ l, Iq.OkT rowI (deep + 1) k := by
      intro l
      induction l with
      | nil => intro _ k hk; cases hk
      | cons a r ih =>
        intro ho k hk
        rcases List.mem_cons.1 hk with rfl | hk
        · exact ho.1
        · exact ih ho.2 k hk
    exact key kids h7
attribute [local irreducible] Iq.nodeT Iq.kidsT
def PWriteC (N : Nat) : Prop := ∀ (t : T) (u : Value) (deep : Int) (k : Nat) (p v : Value) (out : List UInt8) (w : World) (μ : Mem), IsP k p → MOk μ w → Go.Vcg.Own μ (Bld k p v out []) w → MaxQ μ → TabOk μ → KR μ t.kids u → Iq.OkT rowI deep t → t.size ≤ N → out.length + (Iq.nodeT rowI t).length ≤ 140737488355328 →
  Calls Tryz.prog 42 #[.pointer (some ⟨k, 0, none⟩), .agg (encT t u).toArray] w fun e w' => ∃ r μ' i, e = .returned r ∧ BackM (idsOf (Bld k p v out [])) w w' μ (Bld k (.pointer (some ⟨k, 0, none⟩)) i (out ++ Iq.nodeT rowI t) []) μ' ∧ True
theorem pwrite_spec : ∀ (N : Nat), PWriteC N := by
  intro N
  induction N with
  | zero => intro t u deep k p v out w μ hp hμ hO hmq hT hk hok hN; exact absurd hN (by rw [T.size_eq]; omega)
  | succ N ih =>
    intro t u deep k p v out w μ hp hμ hO hmq hT hk hok hN hlen
    have hcnt := ids_count hO.diff
    have ho := hk.one
    have hmm := maxM_ofQ2 hmq
    obtain ⟨h1, h2, h3, h4, h5, h6⟩ := okT_parts hok
    have hop := op_rng h1
    have hkl := kids_le t
    obtain ⟨A0, cK, rfl, hlc, hget⟩ := hk.form
    have hnT := nodeT_eq t
    have hln := line_node t
    have hll := join_len [(rowI t.op).1, Lib.itoa t.n, Lib.itoa t.m, Lib.itoa t.kids.length, quoteB (byS t.s)]
    have hlt0 : (Iq.nodeT rowI t).length = (lineB [(rowI t.op).1, Lib.itoa t.n, Lib.itoa t.m, Lib.itoa t.kids.length, quoteB (byS t.s)]).length + (Iq.kidsT rowI t.kids).length := by
      rw [hnT, hln]
      simp only [List.length_append, List.length_cons, List.length_nil]
      omega
    refine call_introM (args := [.pointer (some ⟨k, 0, none⟩), .agg (encT t (.slice A0 t.kids.length cK)).toArray]) Tryz.func42 rfl Tryz.ntmps42 (by simp) hμ hO ?_
    repeat' (first | ((with_reducible show GC _ _ (Code.seq (Code.region 1 _ _) _) _ _ _ _); (apply gc_stop)) | refine KK ?_ | refine NB fun b => ?_ | (refine KB ?_ ?_ <;> intro hp) | refine KG ?_ | fail)
    obtain ⟨bn, hbn⟩ : ∃ x, x = b := ⟨_, rfl⟩
    rw [← hbn]
    clear hbn
    refine gcs (gc_sel (l' := [(0, .pointer (some ⟨k, 0, none⟩)), (3, .pointer (some ⟨bn, 0, none⟩))]) (L' := Bld k p v out [] ++ [.inl ⟨bn, 42, 6, idx 0 (encT t (.slice A0 t.kids.length cK))⟩]) PU PS ?_)
    dsimp only [List.cons_append, List.nil_append]
    refine gc_join (ι := Value) (fun _ => True) (fun _ => μ) (fun _ => [(0, .pointer (some ⟨k, 0, none⟩)), (3, .pointer (some ⟨bn, 0, none⟩))]) (fun y => Bld k (.pointer (some ⟨k, 0, none⟩)) y (out ++ lineB [(rowI t.op).1, Lib.itoa t.n, Lib.itoa t.m, Lib.itoa t.kids.length, quoteB (byS t.s)]) [] ++ [.inl ⟨bn, 42, 6, idx 0 (encT t (.slice A0 t.kids.length cK))⟩]) ?_ ?_
    · refine gc_drawS 19 ([.inl ⟨bn, 42, 6, idx 0 (encT t (.slice A0 t.kids.length cK))⟩]) (by kernel_rfl) rfl PS ?_
      all_goals refine DD 0 ?_
      all_goals refine DD 1 ?_
      all_goals refine DD 2 ?_
      all_goals refine DD 4 ?_
      all_goals refine DD 5 ?_
      all_goals refine DD 7 ?_
      all_goals refine DD 8 ?_
      all_goals refine DD 10 ?_
      all_goals refine DD 11 ?_
      all_goals refine DD 12 ?_
      all_goals refine DD 14 ?_
      all_goals refine DD 15 ?_
      all_goals (first | (refine D3 3 ?_; refine D5 ?_; (first | ((with_reducible apply F1 8); exact rfl; exact EN; (exact fun w μc hw hse => name_at w μc hw (hmm.mono hse.le) _ hop)) | ((with_reducible apply F1 40); exact rfl; exact EN; (exact fun w μc hw hse => pdigits_spec _ (by first | exact h2 | exact h3 | omega) w μc hw (hT.mono hse.le))) | ((with_reducible apply F1 41); exact rfl; exact EN; (exact fun w μc hw hse => lquote_spec _ (by omega) w μc hw)) | (refine CF 39 ?_; (refine g_share_0 rfl ?_); (intro μ3 hle3 hsh3); (with_reducible apply g_enter_bor 2); exact rfl; exact rfl; exact rfl; ((with_reducible apply e_call2); kernel_rfl; exact rfl; exact rfl); exact rfl; (exact fun w hw hO => pline_spec k p v out [(rowI t.op).1, Lib.itoa t.n, Lib.itoa t.m, Lib.itoa t.kids.length, quoteB (byS t.s)] _ 5 5 hp w μ3 hw hO (sl_words _ hsh3) (by omega) (by omega) (by omega) (by omega)); (rintro v2 μ2 i2 hle2 -); (dsimp only [List.cons_append, List.nil_append]); refine g_forget hcnt (hle3.trans hle2) rfl ?_)); refine D9S ?_))
      all_goals (first | (refine D3 6 ?_; refine D5 ?_; (first | ((with_reducible apply F1 8); exact rfl; exact EN; (exact fun w μc hw hse => name_at w μc hw (hmm.mono hse.le) _ hop)) | ((with_reducible apply F1 40); exact rfl; exact EN; (exact fun w μc hw hse => pdigits_spec _ (by first | exact h2 | exact h3 | omega) w μc hw (hT.mono hse.le))) | ((with_reducible apply F1 41); exact rfl; exact EN; (exact fun w μc hw hse => lquote_spec _ (by omega) w μc hw)) | (refine CF 39 ?_; (refine g_share_0 rfl ?_); (intro μ3 hle3 hsh3); (with_reducible apply g_enter_bor 2); exact rfl; exact rfl; exact rfl; ((with_reducible apply e_call2); kernel_rfl; exact rfl; exact rfl); exact rfl; (exact fun w hw hO => pline_spec k p v out [(rowI t.op).1, Lib.itoa t.n, Lib.itoa t.m, Lib.itoa t.kids.length, quoteB (byS t.s)] _ 5 5 hp w μ3 hw hO (sl_words _ hsh3) (by omega) (by omega) (by omega) (by omega)); (rintro v2 μ2 i2 hle2 -); (dsimp only [List.cons_append, List.nil_append]); refine g_forget hcnt (hle3.trans hle2) rfl ?_)); refine D9S ?_))
      all_goals (first | (refine D3 9 ?_; refine D5 ?_; (first | ((with_reducible apply F1 8); exact rfl; exact EN; (exact fun w μc hw hse => name_at w μc hw (hmm.mono hse.le) _ hop)) | ((with_reducible apply F1 40); exact rfl; exact EN; (exact fun w μc hw hse => pdigits_spec _ (by first | exact h2 | exact h3 | omega) w μc hw (hT.mono hse.le))) | ((with_reducible apply F1 41); exact rfl; exact EN; (exact fun w μc hw hse => lquote_spec _ (by omega) w μc hw)) | (refine CF 39 ?_; (refine g_share_0 rfl ?_); (intro μ3 hle3 hsh3); (with_reducible apply g_enter_bor 2); exact rfl; exact rfl; exact rfl; ((with_reducible apply e_call2); kernel_rfl; exact rfl; exact rfl); exact rfl; (exact fun w hw hO => pline_spec k p v out [(rowI t.op).1, Lib.itoa t.n, Lib.itoa t.m, Lib.itoa t.kids.length, quoteB (byS t.s)] _ 5 5 hp w μ3 hw hO (sl_words _ hsh3) (by omega) (by omega) (by omega) (by omega)); (rintro v2 μ2 i2 hle2 -); (dsimp only [List.cons_append, List.nil_append]); refine g_forget hcnt (hle3.trans hle2) rfl ?_)); refine D9S ?_))
      all_goals (first | (refine D3 13 ?_; refine D5 ?_; (first | ((with_reducible apply F1 8); exact rfl; exact EN; (exact fun w μc hw hse => name_at w μc hw (hmm.mono hse.le) _ hop)) | ((with_reducible apply F1 40); exact rfl; exact EN; (exact fun w μc hw hse => pdigits_spec _ (by first | exact h2 | exact h3 | omega) w μc hw (hT.mono hse.le))) | ((with_reducible apply F1 41); exact rfl; exact EN; (exact fun w μc hw hse => lquote_spec _ (by omega) w μc hw)) | (refine CF 39 ?_; (refine g_share_0 rfl ?_); (intro μ3 hle3 hsh3); (with_reducible apply g_enter_bor 2); exact rfl; exact rfl; exact rfl; ((with_reducible apply e_call2); kernel_rfl; exact rfl; exact rfl); exact rfl; (exact fun w hw hO => pline_spec k p v out [(rowI t.op).1, Lib.itoa t.n, Lib.itoa t.m, Lib.itoa t.kids.length, quoteB (byS t.s)] _ 5 5 hp w μ3 hw hO (sl_words _ hsh3) (by omega) (by omega) (by omega) (by omega)); (rintro v2 μ2 i2 hle2 -); (dsimp only [List.cons_append, List.nil_append]); refine g_forget hcnt (hle3.trans hle2) rfl ?_)); refine D9S ?_))
      all_goals (first | (refine D3 16 ?_; refine D5 ?_; (first | ((with_reducible apply F1 8); exact rfl; exact EN; (exact fun w μc hw hse => name_at w μc hw (hmm.mono hse.le) _ hop)) | ((with_reducible apply F1 40); exact rfl; exact EN; (exact fun w μc hw hse => pdigits_spec _ (by first | exact h2 | exact h3 | omega) w μc hw (hT.mono hse.le))) | ((with_reducible apply F1 41); exact rfl; exact EN; (exact fun w μc hw hse => lquote_spec _ (by omega) w μc hw)) | (refine CF 39 ?_; (refine g_share_0 rfl ?_); (intro μ3 hle3 hsh3); (with_reducible apply g_enter_bor 2); exact rfl; exact rfl; exact rfl; ((with_reducible apply e_call2); kernel_rfl; exact rfl; exact rfl); exact rfl; (exact fun w hw hO => pline_spec k p v out [(rowI t.op).1, Lib.itoa t.n, Lib.itoa t.m, Lib.itoa t.kids.length, quoteB (byS t.s)] _ 5 5 hp w μ3 hw hO (sl_words _ hsh3) (by omega) (by omega) (by omega) (by omega)); (rintro v2 μ2 i2 hle2 -); (dsimp only [List.cons_append, List.nil_append]); refine g_forget hcnt (hle3.trans hle2) rfl ?_)); refine D9S ?_))
      all_goals (first | (refine D3 17 ?_; refine D5 ?_; refine NB fun b => ?_; refine D9S ?_))
      all_goals (first | (refine D3 18 ?_; refine D5 ?_; (first | ((with_reducible apply F1 8); exact rfl; exact EN; (exact fun w μc hw hse => name_at w μc hw (hmm.mono hse.le) _ hop)) | ((with_reducible apply F1 40); exact rfl; exact EN; (exact fun w μc hw hse => pdigits_spec _ (by first | exact h2 | exact h3 | omega) w μc hw (hT.mono hse.le))) | ((with_reducible apply F1 41); exact rfl; exact EN; (exact fun w μc hw hse => lquote_spec _ (by omega) w μc hw)) | (refine CF 39 ?_; (refine g_share_0 rfl ?_); (intro μ3 hle3 hsh3); (with_reducible apply g_enter_bor 2); exact rfl; exact rfl; exact rfl; ((with_reducible apply e_call2); kernel_rfl; exact rfl; exact rfl); exact rfl; (exact fun w hw hO => pline_spec k p v out [(rowI t.op).1, Lib.itoa t.n, Lib.itoa t.m, Lib.itoa t.kids.length, quoteB (byS t.s)] _ 5 5 hp w μ3 hw hO (sl_words _ hsh3) (by omega) (by omega) (by omega) (by omega)); (rintro v2 μ2 i2 hle2 -); (dsimp only [List.cons_append, List.nil_append]); refine g_forget hcnt (hle3.trans hle2) rfl ?_)); refine D9S ?_))
      all_goals refine D8 ?_
      all_goals exact J1 i2 trivial
    rintro v1 -
    dsimp only [List.cons_append, List.nil_append]
    repeat' (first | refine KK ?_ | refine NB fun b => ?_ | (refine KB ?_ ?_ <;> intro hp) | refine KG ?_ | fail)
    refine gc_loop (ι := Nat × Value × List UInt8) (fun q => q.1 ≤ t.kids.length ∧ q.2.2 ++ Iq.kidsT rowI (t.kids.drop q.1) = out ++ Iq.nodeT rowI t) (fun q => t.kids.length - q.1) (fun _ => μ) (fun q => [(28, .int .i64 (q.1 : Int)), (27, .int .i64 (t.kids.length : Int)), (26, .slice A0 t.kids.length cK), (0, .pointer (some ⟨k, 0, none⟩)), (3, .pointer (some ⟨bn, 0, none⟩))]) (fun q => Bld k (.pointer (some ⟨k, 0, none⟩)) q.2.1 q.2.2 [] ++ [.inl ⟨bn, 42, 6, idx 0 (encT t (.slice A0 t.kids.length cK))⟩]) (0, v1, (out ++ lineB [(rowI t.op).1, Lib.itoa t.n, Lib.itoa t.m, Lib.itoa t.kids.length, quoteB (byS t.s)])) ⟨by simp, by rw [hnT, hln]; simp⟩ (fun a w hs => hs.sel PU PS) ?_
    rintro ⟨j, vj, oj⟩ ⟨hj, hoj⟩
    dsimp only [List.cons_append, List.nil_append] at hj hoj ⊢
    by_cases hlt : j < t.kids.length
    · have hkk : t.kids[j]? = some t.kids[j] := List.getElem?_eq_getElem hlt
      have hksz := T.size_kid hkk
      have hkok := h6 _ (List.mem_of_getElem? hkk)
      generalize t.kids[j] = kd at hkk hksz hkok
      obtain ⟨ad, x, rfl, hm, hox, hkx⟩ := hget j kd hkk
      have hkT : Iq.kidsT rowI (t.kids.drop j) = Iq.nodeT rowI kd ++ Iq.kidsT rowI (t.kids.drop (j + 1)) := by rw [dropc hkk, Iq.kidsT]
      rw [hkT] at hoj
      have hlj := congrArg List.length hoj
      simp only [List.length_append] at hlj
      repeat' (first | ((with_reducible show GC _ _ (Code.region 5 _ _) _ _ _ _); (apply gc_stop)) | refine KO ?_ | (refine KV (b := by first | exact U1 j | exact U4 hm) (c := ?_)) | refine KI ?_ | refine NB fun b => ?_ | (refine KB ?_ ?_ <;> intro hp) | refine KG ?_ | fail)
      all_goals try (exfalso; omega)
      obtain ⟨bk, hbk⟩ : ∃ x, x = b := ⟨_, rfl⟩
      rw [← hbk]
      clear hbk
      refine gcs (gc_sel (l' := [(28, .int .i64 (j : Int)), (27, .int .i64 (t.kids.length : Int)), (26, .slice (some ad) t.kids.length cK), (5, .pointer (some ⟨bk, 0, none⟩)), (0, .pointer (some ⟨k, 0, none⟩)), (3, .pointer (some ⟨bn, 0, none⟩))]) (L' := Bld k (.pointer (some ⟨k, 0, none⟩)) vj oj [] ++ [.inl ⟨bn, 42, 6, idx 0 (encT t (.slice (some ad) t.kids.length cK))⟩, .inl ⟨bk, 42, 6, idx 0 (encT kd x)⟩]) PU PS ?_)
      dsimp only [List.cons_append, List.nil_append]
      repeat' (first | refine KO ?_ | (refine CF 42 ?_; (with_reducible apply g_enter_bor 2); exact rfl; exact rfl; exact rfl; ((with_reducible apply e_call2); kernel_rfl; exact rfl; exact rfl); exact rfl; (exact fun w hw hO => ih kd x (deep + 1) k _ vj oj w μ (.inr rfl) hw hO hmq hT hkx hkok (by omega) (by omega)); (rintro v2 μ2 i2 hle2 -); (dsimp only [List.cons_append, List.nil_append]); refine g_forget hcnt hle2 rfl ?_) | refine KI ?_ | refine NB fun b => ?_ | (refine KB ?_ ?_ <;> intro hp) | refine KG ?_ | fail)
      all_goals exact J2 (j + 1, i2, oj ++ Iq.nodeT rowI kd) ⟨by dsimp only; omega, by rw [List.append_assoc]; exact hoj⟩ (by dsimp only; omega)
    · rw [List.drop_of_length_le (by omega), Iq.kidsT, List.append_nil] at hoj
      subst hoj
      repeat' (first | refine KK ?_ | refine NB fun b => ?_ | (refine KB ?_ ?_ <;> intro hp) | refine KG ?_ | fail)
      all_goals first | (exfalso; omega) | (refine gq_sel (l' := []) (L' := Bld k (.pointer (some ⟨k, 0, none⟩)) vj (out ++ Iq.nodeT rowI t) []) PU PS ?_; first | exact ret_bor0 (Post := fun _ _ _ => True) (Ls := fun i => Bld k (.pointer (some ⟨k, 0, none⟩)) i (out ++ Iq.nodeT rowI t) []) 2 vj (.inr rfl) hcnt rfl rfl rfl (fun _ _ _ => trivial) | exact ret_bor0 (Post := fun _ _ _ => True) (Ls := fun i => Bld k (.pointer (some ⟨k, 0, none⟩)) i (out ++ Iq.nodeT rowI t) []) 2 vj (.inl rfl) hcnt rfl rfl rfl (fun _ _ _ => trivial))
end
section
open Go.RowKit Go.Vcg Go.Shelf Ou
attribute [local irreducible] rowI Iq.nodeT Iq.kidsT G GC GQ GA GAop Calls IntKind.wrap Int.decLt Int.decLe
end
section
open Go.RowKit Go.Vcg Go.Shelf Ou
def txB (fs : List Iq.FnP) : List UInt8 := if Iq.rightU rowI fs = true then Iq.unitT rowI fs else []
def txE (fs : List Iq.FnP) : Int := if Iq.rightU rowI fs = true then 0 else 1
theorem fnT_eq (f : F) : Iq.fnT rowI (fnP f) = lineB [[102, 117, 110, 99], quoteB (byS f.name), Lib.itoa f.kind, Lib.itoa f.len, Lib.itoa f.loc] ++ Iq.nodeT rowI f.body := by
  rw [lineB5]
  unfold Iq.fnT Iq.funcT Iq.funcP Iq.numsT
  simp
theorem unitT_eq (fs : List Iq.FnP) : Iq.unitT rowI fs = lineB [[117, 110, 105, 116], Lib.itoa (fs.length : Int)] ++ fs.flatMap (Iq.fnT rowI) := by
  rw [lineB2]
  unfold Iq.unitT Iq.unitP
  simp
attribute [local irreducible] rowI Iq.rightU Iq.nodeT Iq.kidsT G GC GQ GA GAop Calls IntKind.wrap Int.decLt Int.decLe
theorem ptext_all (ps : List (F × Value)) (A : Option Addr) (cc n : Nat) (w : World) (μ : Mem) (hμ : MOk μ w) (hF : Fs μ A n ps) (hmq : MaxQ μ) (hT : TabOk μ) (hall : ∀ p ∈ ps, AllT qN p.1.body) (hlen0 : Iq.rightU rowI (ps.map fun p => fnP p.1) = true → (Iq.unitT rowI (ps.map fun p => fnP p.1)).length ≤ 1000000000) :
    Calls Tryz.prog 17 #[.agg #[.slice A n cc]] w fun e w' => e = .returned (.tuple #[.string (ofB (txB (ps.map fun p => fnP p.1))), .int .i64 (txE (ps.map fun p => fnP p.1))]) ∧ Below w.heap.size w w' := by
  have hpl : ps.length = n := hF.1.1
  have hnb := hF.2.1
  have hr := fun (w : World) (μc : Mem) (hw : MOk μc w) (hle : MLe μ μc) => pright_spec ps A cc n w μc hw (hF.mono hle) (hmq.mono hle) hall
  unfold txB txE
  refine call_intro (args := [.agg #[.slice A n cc]]) Tryz.func17 rfl Tryz.ntmps17 (by simp) hμ ?_
  cases hR : Iq.rightU rowI (ps.map fun p => fnP p.1)
  · rw [hR] at hr
    rw [if_neg (by simp), if_neg (by simp)]
    repeat' (first | refine KO ?_ | ((with_reducible apply F1 19); exact rfl; exact EN; (exact fun w μc hw hse => hr w μc hw hse.le)) | refine KI ?_ | refine NB fun b => ?_ | (refine KB ?_ ?_ <;> intro hp) | refine KG ?_ | fail)
    all_goals exact ret_v2 rfl (rv_tmp rfl) (rv_tmp rfl) rfl rfl
  rw [hR] at hr
  rw [if_pos rfl, if_pos rfl]
  have hok := Iq.right_ok (row := rowI) (fs := (ps.map fun p => fnP p.1)) (fun f hf => by
    obtain ⟨p, hp, rfl⟩ := List.mem_map.1 hf
    exact szT_of _ (hall p hp) (hF.2.2 p hp).2) hR
  obtain ⟨hokF, hn1, hn2⟩ := hok
  rw [List.length_map, hpl] at hn1 hn2
  have hfl : (ps.map fun p => fnP p.1).length = n := by rw [List.length_map]; exact hpl
  have hlen := hlen0 hR
  clear hlen0
  generalize hTx : Iq.unitT rowI (ps.map fun p => fnP p.1) = TX at hlen ⊢
  have hun := unitT_eq (ps.map fun p => fnP p.1)
  rw [hTx, hfl] at hun
  have hul := congrArg List.length hun
  simp only [List.length_append] at hul
  have hjl := join_len [[117, 110, 105, 116], Lib.itoa (n : Int)]
  repeat' (first | ((with_reducible show GC _ _ (Code.seq (Code.region 4 _ _) _) _ _ _ _); (apply gc_stop)) | refine KO ?_ | ((with_reducible apply F1 19); exact rfl; exact EN; (exact fun w μc hw hse => hr w μc hw hse.le)) | refine KI ?_ | refine NB fun b => ?_ | (refine KB ?_ ?_ <;> intro hp) | refine KG ?_ | fail)
  rename_i bu
  obtain ⟨bb, hbb⟩ : ∃ x, x = b := ⟨_, rfl⟩
  rw [← hbb]
  clear hbb
  refine gcs (gc_nilRow 5 1 ?_)
  change GC _ _ _ _ _ _ (Bld bb (.pointer none) (.slice none 0 0) [] [.inl ⟨bu, 27, 1, idx 0 [.slice A n cc]⟩])
  repeat' (first | refine KO ?_ | ((with_reducible apply F1 40); exact rfl; exact EN; (exact fun w μc hw hse => pdigits_spec _ (by omega) w μc hw (hT.mono hse.le))) | (refine CF 39 ?_; (refine g_share_0 rfl ?_); (intro μ3 hle3 hsh3); (with_reducible apply g_enter_bor 2); exact rfl; exact rfl; exact rfl; ((with_reducible apply e_call2); kernel_rfl; exact rfl; exact rfl); exact rfl; (exact fun w hw hO => pline_spec bb _ _ [] [[117, 110, 105, 116], Lib.itoa (n : Int)] _ 2 2 (.inl rfl) w μ3 hw hO (sl_words _ hsh3) (by omega) (by omega) (by omega) (by simp only [List.length_nil]; omega)); (rintro v2 μ2 i2 hle2 -); (dsimp only [List.cons_append, List.nil_append]); refine g_forget (by simp) (hle3.trans hle2) rfl ?_) | refine KI ?_ | refine NB fun b => ?_ | (refine KB ?_ ?_ <;> intro hp) | refine KG ?_ | fail)
  refine gc_loop (ι := Nat × Value × List UInt8) (fun q => q.1 ≤ n ∧ q.2.2 ++ ((ps.map fun p => fnP p.1).drop q.1).flatMap (Iq.fnT rowI) = TX) (fun q => n - q.1) (fun _ => μ) (fun q => [(19, .int .i64 (q.1 : Int)), (18, .int .i64 (n : Int)), (17, .slice A n cc), (1, .pointer (some ⟨bu, 0, none⟩)), (4, .pointer (some ⟨bb, 0, none⟩))]) (fun q => Bld bb (.pointer (some ⟨bb, 0, none⟩)) q.2.1 q.2.2 [.inl ⟨bu, 27, 1, idx 0 [.slice A n cc]⟩]) (0, i2, lineB [[117, 110, 105, 116], Lib.itoa (n : Int)]) ⟨by simp, by rw [hun]; rfl⟩ (fun a w hs => hs.sel PU PS) ?_
  rintro ⟨k, vk, ok⟩ ⟨hk, hok⟩
  dsimp only [List.cons_append, List.nil_append] at hk hok ⊢
  by_cases hlt : k < n
  rotate_left
  · rw [List.drop_of_length_le (by rw [hfl]; omega), List.flatMap_nil, List.append_nil] at hok
    subst hok
    repeat' (first | refine KO ?_ | ((with_reducible apply g_bstr); exact rfl; exact rfl; exact rfl; ((with_reducible apply e_call1); kernel_rfl; exact rfl); exact rfl; exact mok_none hμ; exact .inr rfl) | refine KI ?_ | refine NB fun b => ?_ | (refine KB ?_ ?_ <;> intro hp) | refine KG ?_ | fail)
    all_goals first | (exfalso; omega) | exact ret_v2 rfl (rv_tmp rfl) (rv_tmp rfl) rfl rfl
  obtain ⟨ad, y, rfl, hy, hm⟩ := hF.1.get hlt
  have hyb := hF.2.2 y (List.mem_of_getElem? hy)
  have hyo := hyb.1.one
  have hyk := hokF (fnP y.1) (List.mem_map.2 ⟨y, List.mem_of_getElem? hy, rfl⟩)
  obtain ⟨hkT, hks, hk1, hk2, hk3⟩ := hyk
  dsimp only at hkT hks hk1 hk2 hk3
  have hdr : ((ps.map fun p => fnP p.1).drop k) = fnP y.1 :: (ps.map fun p => fnP p.1).drop (k + 1) := dropc (by rw [List.getElem?_map, hy]; rfl)
  rw [hdr, List.flatMap_cons] at hok
  have hol := congrArg List.length hok
  simp only [List.length_append] at hol
  have hfe := fnT_eq y.1
  have hfl2 := congrArg List.length hfe
  simp only [List.length_append] at hfl2
  have hjl2 := join_len [[102, 117, 110, 99], quoteB (byS y.1.name), Lib.itoa y.1.kind, Lib.itoa y.1.len, Lib.itoa y.1.loc]
  rw [hfe, ← List.append_assoc, ← List.append_assoc] at hok
  repeat' (first | ((with_reducible show GC _ _ (Code.seq (Code.region 8 _ _) _) _ _ _ _); (apply gc_stop)) | refine KO ?_ | (refine KV (b := by first | exact U1 k | exact U4 hm) (c := ?_)) | refine KI ?_ | refine NB fun b => ?_ | (refine KB ?_ ?_ <;> intro hp) | refine KG ?_ | fail)
  all_goals try (exfalso; omega)
  obtain ⟨bf, hbf⟩ : ∃ x, x = b := ⟨_, rfl⟩
  rw [← hbf]
  clear hbf
  refine gcs (gc_sel (l' := [(19, .int .i64 (k : Int)), (18, .int .i64 (n : Int)), (17, .slice (some ad) n cc), (6, .pointer (some ⟨bf, 0, none⟩)), (1, .pointer (some ⟨bu, 0, none⟩)), (4, .pointer (some ⟨bb, 0, none⟩))]) (L' := Bld bb (.pointer (some ⟨bb, 0, none⟩)) vk ok [.inl ⟨bu, 27, 1, idx 0 [.slice (some ad) n cc]⟩, .inl ⟨bf, 44, 10, idx 0 (encF y.1 y.2)⟩]) PU PS ?_)
  refine gc_join (ι := Value) (fun _ => True) (fun _ => μ) (fun _ => [(19, .int .i64 (k : Int)), (18, .int .i64 (n : Int)), (17, .slice (some ad) n cc), (6, .pointer (some ⟨bf, 0, none⟩)), (1, .pointer (some ⟨bu, 0, none⟩)), (4, .pointer (some ⟨bb, 0, none⟩))]) (fun z => Bld bb (.pointer (some ⟨bb, 0, none⟩)) z (ok ++ lineB [[102, 117, 110, 99], quoteB (byS y.1.name), Lib.itoa y.1.kind, Lib.itoa y.1.len, Lib.itoa y.1.loc]) [.inl ⟨bu, 27, 1, idx 0 [.slice (some ad) n cc]⟩, .inl ⟨bf, 44, 10, idx 0 (encF y.1 y.2)⟩]) ?_ ?_
  · refine gc_drawS 14 ([.inl ⟨bf, 44, 10, idx 0 (encF y.1 y.2)⟩]) (by kernel_rfl) rfl PS ?_
    all_goals refine DD 0 ?_
    all_goals refine DD 1 ?_
    all_goals refine DD 3 ?_
    all_goals refine DD 4 ?_
    all_goals refine DD 6 ?_
    all_goals refine DD 7 ?_
    all_goals refine DD 9 ?_
    all_goals refine DD 10 ?_
    all_goals (first | (refine D3 2 ?_; refine D5 ?_; (first | ((with_reducible apply F1 40); exact rfl; exact EN; (exact fun w μc hw hse => pdigits_spec _ (by first | exact hk1 | exact hk2 | exact hk3 | omega) w μc hw (hT.mono hse.le))) | ((with_reducible apply F1 41); exact rfl; exact EN; (exact fun w μc hw hse => lquote_spec _ (by omega) w μc hw)) | (refine CF 39 ?_; (refine g_share_0 rfl ?_); (intro μ3 hle3 hsh3); (with_reducible apply g_enter_bor 2); exact rfl; exact rfl; exact rfl; ((with_reducible apply e_call2); kernel_rfl; exact rfl; exact rfl); exact rfl; (exact fun w hw hO => pline_spec bb _ vk ok [[102, 117, 110, 99], quoteB (byS y.1.name), Lib.itoa y.1.kind, Lib.itoa y.1.len, Lib.itoa y.1.loc] _ 5 5 (.inr rfl) w μ3 hw hO (sl_words _ hsh3) (by omega) (by omega) (by omega) (by omega)); (rintro v2 μ2 i2 hle2 -); (dsimp only [List.cons_append, List.nil_append]); refine g_forget (by simp) (hle3.trans hle2) rfl ?_)); refine D9S ?_))
    all_goals (first | (refine D3 5 ?_; refine D5 ?_; (first | ((with_reducible apply F1 40); exact rfl; exact EN; (exact fun w μc hw hse => pdigits_spec _ (by first | exact hk1 | exact hk2 | exact hk3 | omega) w μc hw (hT.mono hse.le))) | ((with_reducible apply F1 41); exact rfl; exact EN; (exact fun w μc hw hse => lquote_spec _ (by omega) w μc hw)) | (refine CF 39 ?_; (refine g_share_0 rfl ?_); (intro μ3 hle3 hsh3); (with_reducible apply g_enter_bor 2); exact rfl; exact rfl; exact rfl; ((with_reducible apply e_call2); kernel_rfl; exact rfl; exact rfl); exact rfl; (exact fun w hw hO => pline_spec bb _ vk ok [[102, 117, 110, 99], quoteB (byS y.1.name), Lib.itoa y.1.kind, Lib.itoa y.1.len, Lib.itoa y.1.loc] _ 5 5 (.inr rfl) w μ3 hw hO (sl_words _ hsh3) (by omega) (by omega) (by omega) (by omega)); (rintro v2 μ2 i2 hle2 -); (dsimp only [List.cons_append, List.nil_append]); refine g_forget (by simp) (hle3.trans hle2) rfl ?_)); refine D9S ?_))
    all_goals (first | (refine D3 8 ?_; refine D5 ?_; (first | ((with_reducible apply F1 40); exact rfl; exact EN; (exact fun w μc hw hse => pdigits_spec _ (by first | exact hk1 | exact hk2 | exact hk3 | omega) w μc hw (hT.mono hse.le))) | ((with_reducible apply F1 41); exact rfl; exact EN; (exact fun w μc hw hse => lquote_spec _ (by omega) w μc hw)) | (refine CF 39 ?_; (refine g_share_0 rfl ?_); (intro μ3 hle3 hsh3); (with_reducible apply g_enter_bor 2); exact rfl; exact rfl; exact rfl; ((with_reducible apply e_call2); kernel_rfl; exact rfl; exact rfl); exact rfl; (exact fun w hw hO => pline_spec bb _ vk ok [[102, 117, 110, 99], quoteB (byS y.1.name), Lib.itoa y.1.kind, Lib.itoa y.1.len, Lib.itoa y.1.loc] _ 5 5 (.inr rfl) w μ3 hw hO (sl_words _ hsh3) (by omega) (by omega) (by omega) (by omega)); (rintro v2 μ2 i2 hle2 -); (dsimp only [List.cons_append, List.nil_append]); refine g_forget (by simp) (hle3.trans hle2) rfl ?_)); refine D9S ?_))
    all_goals (first | (refine D3 11 ?_; refine D5 ?_; (first | ((with_reducible apply F1 40); exact rfl; exact EN; (exact fun w μc hw hse => pdigits_spec _ (by first | exact hk1 | exact hk2 | exact hk3 | omega) w μc hw (hT.mono hse.le))) | ((with_reducible apply F1 41); exact rfl; exact EN; (exact fun w μc hw hse => lquote_spec _ (by omega) w μc hw)) | (refine CF 39 ?_; (refine g_share_0 rfl ?_); (intro μ3 hle3 hsh3); (with_reducible apply g_enter_bor 2); exact rfl; exact rfl; exact rfl; ((with_reducible apply e_call2); kernel_rfl; exact rfl; exact rfl); exact rfl; (exact fun w hw hO => pline_spec bb _ vk ok [[102, 117, 110, 99], quoteB (byS y.1.name), Lib.itoa y.1.kind, Lib.itoa y.1.len, Lib.itoa y.1.loc] _ 5 5 (.inr rfl) w μ3 hw hO (sl_words _ hsh3) (by omega) (by omega) (by omega) (by omega)); (rintro v2 μ2 i2 hle2 -); (dsimp only [List.cons_append, List.nil_append]); refine g_forget (by simp) (hle3.trans hle2) rfl ?_)); refine D9S ?_))
    all_goals (first | (refine D3 12 ?_; refine D5 ?_; refine NB fun b => ?_; refine D9S ?_))
    all_goals (first | (refine D3 13 ?_; refine D5 ?_; (first | ((with_reducible apply F1 40); exact rfl; exact EN; (exact fun w μc hw hse => pdigits_spec _ (by first | exact hk1 | exact hk2 | exact hk3 | omega) w μc hw (hT.mono hse.le))) | ((with_reducible apply F1 41); exact rfl; exact EN; (exact fun w μc hw hse => lquote_spec _ (by omega) w μc hw)) | (refine CF 39 ?_; (refine g_share_0 rfl ?_); (intro μ3 hle3 hsh3); (with_reducible apply g_enter_bor 2); exact rfl; exact rfl; exact rfl; ((with_reducible apply e_call2); kernel_rfl; exact rfl; exact rfl); exact rfl; (exact fun w hw hO => pline_spec bb _ vk ok [[102, 117, 110, 99], quoteB (byS y.1.name), Lib.itoa y.1.kind, Lib.itoa y.1.len, Lib.itoa y.1.loc] _ 5 5 (.inr rfl) w μ3 hw hO (sl_words _ hsh3) (by omega) (by omega) (by omega) (by omega)); (rintro v2 μ2 i2 hle2 -); (dsimp only [List.cons_append, List.nil_append]); refine g_forget (by simp) (hle3.trans hle2) rfl ?_)); refine D9S ?_))
    all_goals refine D8 ?_
    all_goals exact J1 i2 trivial
  rintro v3 -
  try dsimp only [List.cons_append, List.nil_append]
  repeat' (first | refine KO ?_ | (refine CF 42 ?_; (with_reducible apply g_enter_bor 2); exact rfl; exact rfl; exact rfl; ((with_reducible apply e_call2); kernel_rfl; exact rfl; exact rfl); exact rfl; (exact fun w hw hO => pwrite_spec y.1.body.size y.1.body y.2 1 bb _ v3 _ w μ (.inr rfl) hw hO hmq hT hyb.1 hkT (Nat.le_refl _) (by simp only [List.length_append]; omega)); (rintro v2 μ2 i2 hle2 -); (dsimp only [List.cons_append, List.nil_append]); refine g_forget (by simp) hle2 rfl ?_) | refine KI ?_ | refine NB fun b => ?_ | (refine KB ?_ ?_ <;> intro hp) | refine KG ?_ | fail)
  all_goals exact J2 (k + 1, i2, (ok ++ lineB [[102, 117, 110, 99], quoteB (byS y.1.name), Lib.itoa y.1.kind, Lib.itoa y.1.len, Lib.itoa y.1.loc]) ++ Iq.nodeT rowI y.1.body) ⟨by (try dsimp only); omega, hok⟩ (by (try dsimp only); omega)
end
section
open Go.ChangeShapes Go.WideShapes Go.ChangeAt Go.RowKit Go.Deep Go.Vcg
def ItQ (y : It) : Prop := (-9223372036854775808 ≤ y.op ∧ y.op ≤ 9223372036854775807) ∧ y.s.size ≤ 140737488355328
def FnQ (μ : Mem) (f : UFnI) : Prop := f.name.size ≤ 140737488355328 ∧ ∃ A n c ts, f.body = .slice A n c ∧ Sl encIt 6 μ A n ts ∧ n ≤ 9223372036854775807 ∧ ∀ y ∈ ts, ItQ y
theorem FnQ.mono {μ μ' : Mem} {f : UFnI} (h : FnQ μ f) (hle : MLe μ μ') : FnQ μ' f := by
  obtain ⟨h0, A, n, c, ts, e, hs, hn, hq⟩ := h
  exact ⟨h0, A, n, c, ts, e, hs.mono hle, hn, hq⟩
section
variable {H : Type} {enc : TypeId × Value → H} {P : Program} {W : World}
theorem mem_wAll {e : TypeId} {x : Nat} {d : DataW H} : ∀ {l : List (DataW H)}, d ∈ l → x ∈ d.weights P e → x ∈ DataW.weightsAll P e l
  | c :: r, hd, hx => by
    rw [DataW.weightsAll]
    rcases List.mem_cons.1 hd with rfl | hd
    · exact List.mem_append_left _ hx
    · exact List.mem_append_right _ (mem_wAll hd hx)
theorem it_readQ {base : Nat} {spare : Nat → Bool} {held : Bool} {fuel : Nat} {cs : List Value} {x : DataW H × List MemPlace} (h : DataW.trod enc Tryz.prog W base spare held fuel 70 cs = some x) (hw : (x.1.weights Tryz.prog 70).all (· ≤ reachBytes) = true) : ∃ y : It, cs = encIt y ∧ ItQ y := by
  obtain ⟨xs, n, _, hx, hlen, hxl, hf⟩ := DataW.trod_struct Tryz.underlying70 h
  have hl : cs.length = 6 := hlen.trans (by kernel_rfl)
  have fa := field_at' (t := 70) (by kernel_rfl) (by rw [hl]; rfl) hxl hf
  obtain ⟨c0, y0, e0, t0, g0⟩ := fa 0 _ rfl
  obtain ⟨c1, y1, e1, t1, g1⟩ := fa 1 _ rfl
  obtain ⟨c2, y2, e2, t2, g2⟩ := fa 2 _ rfl
  obtain ⟨c3, y3, e3, t3, g3⟩ := fa 3 _ rfl
  obtain ⟨c4, y4, e4, t4, g4⟩ := fa 4 _ rfl
  obtain ⟨c5, y5, e5, t5, g5⟩ := fa 5 _ rfl
  obtain ⟨a0, z0, u0, w0⟩ := DataW.trod_int Tryz.underlying3 t0
  obtain ⟨a1, z1, u1, w1⟩ := DataW.trod_int Tryz.underlying3 t1
  obtain ⟨a2, z2, u2, w2⟩ := DataW.trod_int Tryz.underlying3 t2
  obtain ⟨a3, z3, u3, w3⟩ := DataW.trod_int Tryz.underlying3 t3
  obtain ⟨a4, z4, u4, w4⟩ := DataW.trod_string Tryz.underlying9 t4
  obtain ⟨a5, z5, u5, w5⟩ := DataW.trod_int Tryz.underlying3 t5
  simp only [List.cons.injEq, and_true] at z0 z1 z2 z3 z4 z5
  subst z0 z1 z2 z3 z4 z5 u0 u1 u2 u3 u4 u5
  refine ⟨⟨a0, a1, a2, a3, a4, a5⟩, ?_, i64_bounds w0, ?_⟩
  · match cs, hl with
    | [_, _, _, _, _, _], _ =>
      simp at e0 e1 e2 e3 e4 e5
      simp [e0, e1, e2, e3, e4, e5]
  · have hxs : xs = [(.lit (.int .i64 a0), []), (.lit (.int .i64 a1), []), (.lit (.int .i64 a2), []), (.lit (.int .i64 a3), []), (.lit (.string a4.data.toList), []), (.lit (.int .i64 a5), [])] := by
      have h7 : xs.length = 6 := hxl
      match xs, h7 with
      | [_, _, _, _, _, _], _ =>
        simp at g0 g1 g2 g3 g4 g5
        rw [g0, g1, g2, g3, g4, g5]
    subst hxs
    have hd : x.1 = .agg [.lit (.int .i64 a0), .lit (.int .i64 a1), .lit (.int .i64 a2), .lit (.int .i64 a3), .lit (.string a4.data.toList), .lit (.int .i64 a5)] := congrArg Prod.fst hx
    have hm : a4.data.toList.length ∈ x.1.weights Tryz.prog 70 := by
      rw [hd, DataW.weights, Tryz.underlying70]
      show _ ∈ DataW.weightsEach Tryz.prog [3, 3, 3, 3, 9, 3] _
      simp [DataW.weightsEach, DataW.weights]
    have h9 := of_decide_eq_true (List.all_eq_true.1 hw _ hm)
    unfold reachBytes at h9
    have h10 : a4.size = a4.data.toList.length := rfl
    show a4.size ≤ 140737488355328
    omega
theorem fn_readQ {fuel : Nat} {cs : List Value} {x : DataW H × List MemPlace} (h : DataW.trod enc Tryz.prog W 0 (fun _ => true) true fuel 68 cs = some x) (hw : (x.1.weights Tryz.prog 68).all (· ≤ reachBytes) = true) : ∃ f : UFnI, cs = encFn f ∧ FnQ (memOf W) f := by
  obtain ⟨xs, n, hfuel, hx, hlen, hxl, hf⟩ := DataW.trod_struct Tryz.underlying68 h
  have hl : cs.length = 5 := hlen.trans (by kernel_rfl)
  have fa := field_at' (t := 68) (by kernel_rfl) (by rw [hl]; rfl) hxl hf
  obtain ⟨c0, y0, e0, t0, g0⟩ := fa 0 _ rfl
  obtain ⟨c1, y1, e1, t1, g1⟩ := fa 1 _ rfl
  obtain ⟨c2, y2, e2, t2, g2⟩ := fa 2 _ rfl
  obtain ⟨c3, y3, e3, t3, g3⟩ := fa 3 _ rfl
  obtain ⟨c4, y4, e4, t4, g4⟩ := fa 4 _ rfl
  have hxs : xs = [y0, y1, y2, y3, y4] := by
    have h7 : xs.length = 5 := hxl
    match xs, h7 with
    | [_, _, _, _, _], _ =>
      simp at g0 g1 g2 g3 g4
      rw [g0, g1, g2, g3, g4]
  have hd : x.1 = .agg [y0.1, y1.1, y2.1, y3.1, y4.1] := by
    have := congrArg Prod.fst hx
    rw [hxs] at this
    exact this
  have hws : ∀ z, z ∈ y0.1.weights Tryz.prog 9 ∨ z ∈ y4.1.weights Tryz.prog 66 → z ≤ reachBytes := fun z hz => by
    have hm : z ∈ x.1.weights Tryz.prog 68 := by
      rw [hd, DataW.weights, Tryz.underlying68]
      show _ ∈ DataW.weightsEach Tryz.prog [9, 3, 3, 3, 66] _
      simp only [DataW.weightsEach, List.mem_append]
      rcases hz with hz | hz
      · exact .inl hz
      · exact .inr (.inr (.inr (.inr (.inl hz))))
    exact of_decide_eq_true (List.all_eq_true.1 hw _ hm)
  obtain ⟨a0, z0, u0, _⟩ := DataW.trod_string Tryz.underlying9 t0
  obtain ⟨a1, z1, u1, _⟩ := DataW.trod_int Tryz.underlying3 t1
  obtain ⟨a2, z2, u2, _⟩ := DataW.trod_int Tryz.underlying3 t2
  obtain ⟨a3, z3, u3, _⟩ := DataW.trod_int Tryz.underlying3 t3
  simp only [List.cons.injEq, and_true] at z0 z1 z2 z3
  subst z0 z1 z2 z3
  have hcs : cs = [.string a0, .int .i64 a1, .int .i64 a2, .int .i64 a3, c4] := by
    match cs, hl with
    | [_, _, _, _, _], _ =>
      simp at e0 e1 e2 e3 e4
      simp [e0, e1, e2, e3, e4]
  have hname : a0.size ≤ 140737488355328 := by
    have h10 : a0.size = a0.data.toList.length := rfl
    have h11 := hws a0.size (.inl (by rw [h10, u0]; simp [DataW.weights]))
    unfold reachBytes at h11
    omega
  refine ⟨⟨a0, a1, a2, a3, c4⟩, hcs, hname, ?_⟩
  rcases DataW.trod_slice Tryz.underlying66 t4 with ⟨h0, _⟩ | ⟨a, len, cap, elems, rest, k, hk, h0, hy4, hb, hle, hm, hlen', hel, _⟩
  · simp only [List.cons.injEq, and_true] at h0
    subst h0
    exact ⟨none, 0, 0, [], rfl, Sl.nil _ _ _ _, by simp, by simp⟩
  · simp only [List.cons.injEq, and_true] at h0
    subst h0
    have hex : ∀ i, i < len → ∃ y : It, MCells (memOf W) (a.add (i * 6)) (encIt y) ∧ ItQ y := fun i hi => by
      have he := hel i hi
      have hel2 : elems[i]? = some elems[i] := List.getElem?_eq_getElem (show i < elems.length by omega)
      rw [hel2] at he
      obtain ⟨cs', hc, ht'⟩ := Option.bind_eq_some_iff.1 he
      obtain ⟨t, rfl, hq⟩ := it_readQ ht' (List.all_eq_true.2 fun z hz => decide_eq_true (hws z (.inr (by
        rw [hy4]
        dsimp only
        rw [DataW.weights, Tryz.underlying66]
        refine List.mem_cons_of_mem _ (List.mem_append_left _ (mem_wAll (d := elems[i].1) (List.mem_map.2 ⟨_, List.mem_of_getElem? hel2, rfl⟩) hz))))))
      refine ⟨t, fun j v hv => ?_, hq⟩
      obtain ⟨_, hcl, hat⟩ := World.cells?_some hc
      have hs : Tryz.prog.cellsOf 70 = 6 := by kernel_rfl
      rw [hs] at hat hcl
      have hj : j < 6 := by
        have := (List.getElem?_eq_some_iff.1 hv).1
        simpa using this
      have := hat j hj
      rw [hv] at this
      exact MCell.of_cell this
    obtain ⟨l, hl1, hl2⟩ := exists_list len hex
    refine ⟨some a, len, cap, l, rfl, ⟨hl1, fun _ => ⟨a, rfl, fun i x hx => (hl2 i x hx).1⟩⟩, by have := hm; simp only [maxLen] at this; omega, fun y hy => ?_⟩
    obtain ⟨i, hi⟩ := List.mem_iff_getElem?.1 hy
    exact (hl2 i y hi).2
theorem open_fnsQ {r : Reach} {b0 : Nat} {v : Value} {d : DataW H} {p : List MemPlace} (hv : Value.okWide Tryz.prog W r b0 33 v) (h : DataW.Trod enc Tryz.prog W 0 (fun _ => true) true 33 v d p) (hw : (d.weights Tryz.prog 33).all (· ≤ reachBytes) = true) :
    ∃ A n c fs, v = .slice A n c ∧ Sl encFn 5 (memOf W) A n fs ∧ n ≤ 9223372036854775807 ∧ ∀ f ∈ fs, FnQ (memOf W) f := by
  obtain ⟨A, n, c, rfl⟩ := okWide_slice Tryz.underlying33 hv
  obtain ⟨fuel, hf⟩ := h
  rcases open_slice Tryz.underlying33 hf with ⟨hcs, _⟩ | ⟨a, len, cap, m, k, D, Pl, hcs, _, hl, hm, hmm, hx, hi⟩
  · simp [Value.cells] at hcs
    obtain ⟨rfl, rfl, rfl⟩ := hcs
    exact ⟨none, 0, 0, [], rfl, Sl.nil _ _ _ _, by simp, by simp⟩
  · simp [Value.cells] at hcs
    obtain ⟨rfl, rfl, rfl⟩ := hcs
    simp at hmm
    obtain rfl := congrArg Prod.fst hx
    simp only at hw
    rw [DataW.weights, Tryz.underlying33] at hw
    simp only at hw
    have hs : Tryz.prog.cellsOf 68 = 5 := by kernel_rfl
    have hwi : ∀ i, i < n → ((D i).weights Tryz.prog 68).all (· ≤ reachBytes) = true := fun i hin => by
      refine List.all_eq_true.2 fun z hz => List.all_eq_true.1 hw z ?_
      refine List.mem_cons_of_mem _ (List.mem_append_left _ (mem_wAll (d := D i) ?_ hz))
      exact List.mem_map.2 ⟨i, List.mem_range.2 hin, rfl⟩
    have hex : ∀ i, i < n → ∃ y : UFnI, MCells (memOf W) (a.add (i * 5)) (encFn y) ∧ FnQ (memOf W) y := fun i hin => by
      obtain ⟨cs', hc, ht'⟩ := hi i (by omega)
      obtain ⟨y, rfl, hq⟩ := fn_readQ ht' (hwi i hin)
      refine ⟨y, fun j u hu => ?_, hq⟩
      obtain ⟨_, hcl, hat⟩ := World.cells?_some hc
      rw [hs] at hat hcl
      have hj : j < 5 := by
        have := (List.getElem?_eq_some_iff.1 hu).1
        simpa using this
      have := hat j hj
      rw [hu] at this
      exact MCell.of_cell this
    obtain ⟨l, hl1, hl2⟩ := exists_list n hex
    refine ⟨some a, n, c, l, rfl, ⟨hl1, fun _ => ⟨a, rfl, fun i x hx => (hl2 i x hx).1⟩⟩, by (have h9 : maxLen ≤ 9223372036854775807 := by decide); omega, fun x hx => ?_⟩
    obtain ⟨i, hi1⟩ := List.mem_iff_getElem?.1 hx
    exact (hl2 i x hi1).2
end
end
end Go.Proofs.YtoclmkdfcafhfaaGreatDoor
