/- Closed runs of package tree's Name; what the machine may take as known. -/
import Derived.KernelRfl
import Derived.Test.YtccbkihnedpjcaaDoorQam
import Derived.Shelf.Vars
import Derived.Lib.LaidU8
import Derived.Lib.LaidTab
import Derived.Lay
import Derived.LaidOnce
import Derived.SevenTiedAt
import Derived.Test.YtccbkihnedpjcaaDoorTie
import Derived.Test.YtccbkihnedpjcaaDoorCards
set_option maxRecDepth 20000
set_option maxHeartbeats 2000000
namespace Go.Proofs.YtccbkihnedpjcaaDoor
section
open Go.Rex Go.RowKit Go.Vcg
def zz (n : Nat) : List Value := List.replicate n (.int .u8 0)
def asp : List Value := zz 9 ++ List.replicate 5 (.int .u8 1) ++ zz 18 ++ [.int .u8 1] ++ zz 223
def T1 : List (Nat × List Value) := [(0, asp)]
def noMemo : Memo := fun _ _ => none
theorem noMemo_ok (w : World) : MemoOk Tryd.prog w noMemo := fun _ _ _ e => by cases e
theorem mixed : Tryd.prog.follows .mixedOrders = true := by kernel_rfl
theorem name_1 : runF Tryd.prog 1000 noMemo T1 400 50 [.int .i64 (.ofNat 1)] = some (.string ⟨⟨[80, 114, 111, 103, 114, 97, 109]⟩⟩) := by kernel_rfl
theorem name_2 : runF Tryd.prog 1000 noMemo T1 400 50 [.int .i64 (.ofNat 2)] = some (.string ⟨⟨[86, 97, 114]⟩⟩) := by kernel_rfl
theorem name_3 : runF Tryd.prog 1000 noMemo T1 400 50 [.int .i64 (.ofNat 3)] = some (.string ⟨⟨[68, 101, 99, 108]⟩⟩) := by kernel_rfl
theorem name_4 : runF Tryd.prog 1000 noMemo T1 400 50 [.int .i64 (.ofNat 4)] = some (.string ⟨⟨[70, 117, 110, 99]⟩⟩) := by kernel_rfl
theorem name_5 : runF Tryd.prog 1000 noMemo T1 400 50 [.int .i64 (.ofNat 5)] = some (.string ⟨⟨[80, 97, 114, 97, 109, 115]⟩⟩) := by kernel_rfl
theorem name_6 : runF Tryd.prog 1000 noMemo T1 400 50 [.int .i64 (.ofNat 6)] = some (.string ⟨⟨[66, 108, 111, 99, 107]⟩⟩) := by kernel_rfl
theorem name_17 : runF Tryd.prog 1000 noMemo T1 400 50 [.int .i64 (.ofNat 17)] = some (.string ⟨⟨[82, 101, 116, 117, 114, 110]⟩⟩) := by kernel_rfl
theorem name_30 : runF Tryd.prog 1000 noMemo T1 400 50 [.int .i64 (.ofNat 30)] = some (.string ⟨⟨[78, 117, 109]⟩⟩) := by kernel_rfl
theorem name_34 : runF Tryd.prog 1000 noMemo T1 400 50 [.int .i64 (.ofNat 34)] = some (.string ⟨⟨[78, 97, 109, 101]⟩⟩) := by kernel_rfl
def nameOf (k : Nat) : Option Value := match Nat.beq k 1 with
  | true => some (.string ⟨⟨[80, 114, 111, 103, 114, 97, 109]⟩⟩)
  | false => match Nat.beq k 2 with
  | true => some (.string ⟨⟨[86, 97, 114]⟩⟩)
  | false => match Nat.beq k 3 with
  | true => some (.string ⟨⟨[68, 101, 99, 108]⟩⟩)
  | false => match Nat.beq k 4 with
  | true => some (.string ⟨⟨[70, 117, 110, 99]⟩⟩)
  | false => match Nat.beq k 5 with
  | true => some (.string ⟨⟨[80, 97, 114, 97, 109, 115]⟩⟩)
  | false => match Nat.beq k 6 with
  | true => some (.string ⟨⟨[66, 108, 111, 99, 107]⟩⟩)
  | false => match Nat.beq k 17 with
  | true => some (.string ⟨⟨[82, 101, 116, 117, 114, 110]⟩⟩)
  | false => match Nat.beq k 30 with
  | true => some (.string ⟨⟨[78, 117, 109]⟩⟩)
  | false => match Nat.beq k 34 with
  | true => some (.string ⟨⟨[78, 97, 109, 101]⟩⟩)
  | false => none
theorem nameOf_ok {k : Nat} {v : Value} (e : nameOf k = some v) : runF Tryd.prog 1000 noMemo T1 400 50 [.int .i64 (.ofNat k)] = some v := by
  unfold nameOf at e
  split at e
  · rename_i h; rw [Nat.eq_of_beq_eq_true h, ← e]; exact name_1
  · skip
    split at e
    · rename_i h; rw [Nat.eq_of_beq_eq_true h, ← e]; exact name_2
    · skip
      split at e
      · rename_i h; rw [Nat.eq_of_beq_eq_true h, ← e]; exact name_3
      · skip
        split at e
        · rename_i h; rw [Nat.eq_of_beq_eq_true h, ← e]; exact name_4
        · skip
          split at e
          · rename_i h; rw [Nat.eq_of_beq_eq_true h, ← e]; exact name_5
          · skip
            split at e
            · rename_i h; rw [Nat.eq_of_beq_eq_true h, ← e]; exact name_6
            · skip
              split at e
              · rename_i h; rw [Nat.eq_of_beq_eq_true h, ← e]; exact name_17
              · skip
                split at e
                · rename_i h; rw [Nat.eq_of_beq_eq_true h, ← e]; exact name_30
                · skip
                  split at e
                  · rename_i h; rw [Nat.eq_of_beq_eq_true h, ← e]; exact name_34
                  · cases e
def memoN : Memo := fun f vs => match Nat.beq f 50 with
  | true => match vs with
    | [.int .i64 (.ofNat k)] => nameOf k
    | _ => none
  | false => none
theorem memoN_ok {w : World} (h : TabsOk 1000 w T1) : MemoOk Tryd.prog w memoN := fun f vs v e => by
  unfold memoN at e
  split at e
  · rename_i hf
    have hf := Nat.eq_of_beq_eq_true hf
    subst hf
    split at e
    · rename_i k
      have h1 := nameOf_ok e
      refine ⟨rfl, ?_, fun w' hk => runF_sound mixed (noMemo_ok w') (by decide) (h.keep hk) h1⟩
      unfold runF at h1
      split at h1
      · split at h1
        · rename_i hfl
          split at h1
          · cases h1; exact hfl
          · cases h1
        · cases h1
      · cases h1
    · cases e
  · cases e
theorem awake_run : runF Tryd.prog 1000 memoN T1 400 4 [] = some (.bool true) := by kernel_rfl
theorem awake_spec {w : World} (h : TabsOk 1000 w T1) : Calls Tryd.prog 4 #[] w fun e w' => e = .returned (.bool true) ∧ Below w.heap.size w w' :=
  runF_sound mixed (memoN_ok h) (by decide) h awake_run
end
section
open Go.RowKit Go.Vcg
def TabM (μ : Mem) : Prop := ∀ g cs, (g, cs) ∈ T1 → g < 1000 ∧ Rex.flats cs = true ∧ ∃ t f, μ g = some (.cells cs.toArray t f)
theorem TabM.ok {μ μ' : Mem} {w : World} (h : TabM μ) (hle : MLe μ μ') (hw : MOk μ' w) : Rex.TabsOk 1000 w T1 := fun g cs hm => by
  obtain ⟨h1, h2, t, f, h3⟩ := h g cs hm
  exact ⟨h1, h2, t, f, hw _ _ (hle _ _ h3)⟩
def BdU (μ : Mem) (l : List Bd) (v : Value) : Prop := ∃ A c, v = .slice A l.length c ∧ Sl encBd 4 μ A l.length l ∧ l.length ≤ c
attribute [local irreducible] famB base dP heldN locN placeF findF numBd numS oneS G GC GQ GA GAop Calls IntKind.wrap Int.decLt Int.decLe
theorem lists_walk (w : World) (μ : Mem) (hμ : MOk μ w) (hT : TabM μ) (ps : List (Sc × Value)) (A : Option Addr) (c : Nat) (hS : Sl encSc 5 μ A ps.length ps) (hc : ps.length ≤ c) (hall : ∀ p ∈ ps, BdU μ p.1.names p.2) (at' : Int) (x : ByteArray) :
    Calls Tryd.prog 3 #[.slice A ps.length c, .int .i64 at', .string x] w fun e w' => e = .returned (.bool true) ∧ Below w.heap.size w w' := by
  obtain ⟨k, hk⟩ : ∃ k, k = min ps.length 200 := ⟨_, rfl⟩
  have hSq : Sl encSc 5 μ A k (ps.take k) := hS.take (by omega)
  have hallq : ∀ p ∈ ps.take k, BdU μ p.1.names p.2 := fun p hp => hall p (List.mem_of_mem_take hp)
  have hqn : (ps.take k).length = k := by rw [List.length_take]; omega
  obtain ⟨qs, hq⟩ : ∃ qs, qs = ps.take k := ⟨_, rfl⟩
  rw [← hq] at hSq hallq hqn
  subst hqn
  refine call_intro (args := [.slice A ps.length c, .int .i64 at', .string x]) Tryd.func3 rfl Tryd.ntmps3 (by simp) hμ ?_
  repeat' (first | refine KO ?_ | ((with_reducible apply F1 4); exact rfl; exact EN; (exact fun w μc hw hse => awake_spec (hT.ok hse.le hw))) | (refine KV (b := by first | ((with_reducible apply v_min2); exact rfl; exact rfl) | ((with_reducible apply v_slice_hi qs.length); exact rfl; exact rfl; exact rfl; exact rfl; (focus (split <;> omega; done)); omega)) (c := ?_)) | refine KI ?_ | (refine KB ?_ ?_ <;> intro hp) | refine KG ?_ | fail)
  refine gc_loop (ι := Nat) (fun i => i ≤ qs.length ∧ ∀ (j : Nat) (p : Sc × Value), j < i → qs[j]? = some p → p.1.names.length ≤ 200) (fun i => qs.length - i) (fun _ => μ) (fun i => [(7, .int .i64 (i : Int)), (0, .slice A qs.length c), (1, .int .i64 at'), (2, .string x)]) (fun _ => []) 0 ⟨Nat.zero_le _, fun j p h => absurd h (by omega)⟩ (fun a w hs => J5 hs) ?_
  rintro i ⟨hi, hsm⟩
  by_cases hlt : i < qs.length
  · obtain ⟨ad, y, rfl, hy, hm⟩ := hSq.get hlt
    obtain ⟨s, v⟩ := y
    obtain ⟨A2, c2, hv, hS2, hl2⟩ := hallq _ (List.mem_of_getElem? hy)
    dsimp only at hv hS2 hl2
    subst hv
    have hm5 : MCells μ (ad.add (i * 5)) [.int .i64 s.up, .int .i64 s.fn, .int .i64 s.kind, .int .i64 s.at', .slice A2 s.names.length c2] := hm
    repeat' (first | refine KO ?_ | (refine KV (b := by first | exact U1 i | exact U4 hm5) (c := ?_)) | refine KI ?_ | (refine KB ?_ ?_ <;> intro hp) | refine KG ?_ | fail)
    all_goals try (exfalso; first | omega | contradiction)
    · exact ret_s rfl rfl rfl
    · exact gq_backS (i + 1) ⟨by omega, fun j p hj hp => by
        by_cases h : j < i
        · exact hsm j p h hp
        · obtain rfl : j = i := by omega
          rw [hy] at hp
          cases hp
          dsimp only
          omega⟩ (by omega) rfl PU PS
  have hR : ScR μ A qs := ⟨hSq, by omega, fun p hp => by
    obtain ⟨A2, c2, h1, h2, h3⟩ := hallq p hp
    obtain ⟨j, hj⟩ := List.mem_iff_getElem?.1 hp
    exact ⟨A2, c2, h1, h2, hsm j p (by have := (List.getElem?_eq_some_iff.1 hj).1; omega) hj, h3⟩⟩
  have hf1 := fun (w : World) (μc : Mem) (hw : MOk μc w) (hle : MLe μ μc) => pfind_spec w μc hw qs A c (hR.mono hle) at' x
  have hf2 := fun (w : World) (μc : Mem) (hw : MOk μc w) (hle : MLe μ μc) => rfind_spec w μc hw qs A c (hR.mono hle) at' x
  have hl1 := fun (w : World) (μc : Mem) (hw : MOk μc w) (hle : MLe μ μc) => plocals_spec w μc hw qs A c (hR.mono hle) at'
  have hl2 := fun (w : World) (μc : Mem) (hw : MOk μc w) (hle : MLe μ μc) => rlocals_spec w μc hw qs A c (hR.mono hle) at'
  have hr1 := fun (w : World) (μc : Mem) (hw : MOk μc w) (hle : MLe μ μc) => pright_spec w μc hw qs A c (hR.mono hle)
  have hr2 := fun (w : World) (μc : Mem) (hw : MOk μc w) (hle : MLe μ μc) => rright_spec w μc hw qs A c (hR.mono hle)
  obtain ⟨fa, fb, fc, hfv⟩ : ∃ (a b : Int) (c : Bool), findV (findF (scs qs) x (at'.toNat + 1) at') = .tuple #[.int .i64 a, .int .i64 b, .bool c] := by
    cases findF (scs qs) x (at'.toNat + 1) at' with
    | none => exact ⟨_, _, _, rfl⟩
    | some p => exact ⟨_, _, _, rfl⟩
  rw [hfv] at hf1 hf2
  generalize (((if at' = 0 then 1 else 0) + locN at' (scs qs) : Nat) : Int) = n at hl1 hl2
  generalize dP (RightP (scs qs)) = R at hr1 hr2
  cases fc <;> cases R
  all_goals repeat' (first | refine KO ?_ | ((with_reducible apply F1 5); exact rfl; exact EN; exact fun w μc hw hse => hf1 w μc hw hse.le) | ((with_reducible apply F1 6); exact rfl; exact EN; exact fun w μc hw hse => hf2 w μc hw hse.le) | ((with_reducible apply F1 7); exact rfl; exact EN; exact fun w μc hw hse => hl1 w μc hw hse.le) | ((with_reducible apply F1 8); exact rfl; exact EN; exact fun w μc hw hse => hl2 w μc hw hse.le) | ((with_reducible apply F1 9); exact rfl; exact EN; exact fun w μc hw hse => hr1 w μc hw hse.le) | ((with_reducible apply F1 10); exact rfl; exact EN; exact fun w μc hw hse => hr2 w μc hw hse.le) | refine KI ?_ | (refine KB ?_ ?_ <;> intro hp) | refine KG ?_ | fail)
  all_goals try (exfalso; first | omega | contradiction)
  all_goals refine gc_loop (ι := Nat) (fun i => i ≤ qs.length) (fun i => qs.length - i) (fun _ => μ) (fun i => [(14, .int .i64 (i : Int)), (0, .slice A qs.length c)]) (fun _ => []) 0 (Nat.zero_le _) (fun a w hs => J5 hs) ?_
  all_goals
    clear hi hsm hlt i hf1 hf2 hl1 hl2 hr1 hr2 hfv
    intro i hi
    by_cases hlt : i < qs.length
    · obtain ⟨ad, y, rfl, hy, hm⟩ := hSq.get hlt
      obtain ⟨s, v⟩ := y
      have hbv := hR.2.2 _ (List.mem_of_getElem? hy)
      dsimp only at hbv
      have hs1 := fun (w : World) (μc : Mem) (hw : MOk μc w) (hle : MLe μ μc) => pslots_spec w μc hw s v (hbv.mono hle)
      have hs2 := fun (w : World) (μc : Mem) (hw : MOk μc w) (hle : MLe μ μc) => rslots_spec w μc hw s v (hbv.mono hle)
      have hm5 : MCells μ (ad.add (i * 5)) [.int .i64 s.up, .int .i64 s.fn, .int .i64 s.kind, .int .i64 s.at', v] := hm
      repeat' (first | refine KK ?_ | (refine KB ?_ ?_ <;> intro hp) | refine KG ?_ | fail)
      all_goals try (exfalso; first | omega | contradiction)
      all_goals refine gc_draw 11 ([]) (by kernel_rfl) rfl (by first | exact List.Sublist.refl _ | simp) ?_
                all_goals refine DD 0 ?_
                all_goals refine DD 1 ?_
                all_goals (first | refine D1 2 ?_ | (refine DV (k := 2) (b := by first | exact U1 i | exact U4 hm5) (c := ?_)) | refine DD 2 ?_ | fail)
                all_goals (first | refine D1 3 ?_ | (refine DV (k := 3) (b := by first | exact U1 i | exact U4 hm5) (c := ?_)) | (refine D3 3 (DW (b := by first | exact U1 i | exact U4 hm5) (c := ?_))) | refine DD 3 ?_ | fail)
                all_goals refine DD 5 ?_
                all_goals refine DD 6 ?_
                all_goals (first | refine D1 7 ?_ | (refine DV (k := 7) (b := by first | exact U1 i | exact U4 hm5) (c := ?_)) | refine DD 7 ?_ | fail)
                all_goals (first | refine D1 8 ?_ | (refine DV (k := 8) (b := by first | exact U1 i | exact U4 hm5) (c := ?_)) | (refine D3 8 (DW (b := by first | exact U1 i | exact U4 hm5) (c := ?_))) | refine DD 8 ?_ | fail)
                all_goals (first | (refine D3 4 ?_; refine D5 ?_; (first | ((with_reducible apply F1 11); exact rfl; exact EN; exact fun w μc hw hse => hs1 w μc hw hse.le) | ((with_reducible apply F1 12); exact rfl; exact EN; exact fun w μc hw hse => hs2 w μc hw hse.le)); refine D9 ?_))
                all_goals (first | (refine D3 9 ?_; refine D5 ?_; (first | ((with_reducible apply F1 11); exact rfl; exact EN; exact fun w μc hw hse => hs1 w μc hw hse.le) | ((with_reducible apply F1 12); exact rfl; exact EN; exact fun w μc hw hse => hs2 w μc hw hse.le)); refine D9 ?_))
                all_goals (first | refine D1 10 ?_ | (refine DV (k := 10) (b := by first | exact U1 i | exact U4 hm5) (c := ?_)) | refine DD 10 ?_ | fail)
                all_goals refine D8 ?_
      all_goals repeat' (first | refine KK ?_ | (refine KB ?_ ?_ <;> intro hp) | refine KG ?_ | fail)
      all_goals try (exfalso; first | omega | contradiction)
      all_goals exact J2 (i + 1) (by omega) (by omega)
    · repeat' (first | refine KK ?_ | (refine KB ?_ ?_ <;> intro hp) | refine KG ?_ | fail)
      all_goals first | exact ret_s rfl rfl rfl | (exfalso; first | omega | contradiction)
end
section
open Go.ChangeShapes Go.WideShapes Go.ChangeAt Go.RowKit Go.Deep Go.Vcg
def aspI : List Int := List.replicate 9 0 ++ List.replicate 5 1 ++ List.replicate 18 0 ++ [1] ++ List.replicate 223 0
theorem tabM_of {W : World} {l : List (String × DataW Unit)} (h : laidMet Tryd.prog l W) (hm : ("strings.asciiSpace", Rows.laid_strings_asciiSpace) ∈ l) : TabM (memOf W) := fun g cs hgc => by
  have hgc' : g = 0 ∧ cs = asp := by simpa [T1] using hgc
  obtain ⟨rfl, rfl⟩ := hgc'
  refine ⟨by decide, by kernel_rfl, ?_⟩
  obtain ⟨g, t, cs, fuel, p, h1, h2, h3, h4⟩ := Lib.laidMet.reads h hm
  have hg : Tryd.prog.globalNamed "strings.asciiSpace" = some 0 := by kernel_rfl
  obtain rfl := Option.some.inj (hg.symm.trans h1)
  have ht : (Tryd.prog.globals[0]?).map (·.type) = some 112 := by kernel_rfl
  obtain rfl := Option.some.inj (ht.symm.trans h2)
  have hd : (Rows.laid_strings_asciiSpace : DataW Unit) = Lib.tabData .u8 aspI := by rfl
  rw [hd] at h4
  have hc := Lib.cells_of_tab Tryd.underlying112 Tryd.underlying5 (by kernel_rfl) (by kernel_rfl) h4
  unfold World.var? at h3
  rw [hg] at h3
  simp only [Option.bind_some] at h3
  cases hb : W.heap[0]? with
  | none => rw [hb] at h3; cases h3
  | some o =>
    rw [hb] at h3
    cases o <;> simp at h3
    rename_i cs' t f
    subst h3
    refine ⟨t, f, ?_⟩
    show W.heap[0]? = _
    have he : asp = List.map (fun z => Value.int IntKind.u8 z) aspI := by kernel_rfl
    rw [hb, he, ← hc]
section
variable {H : Type} {enc : TypeId × Value → H} {W : World} {base : Nat} {spare : Nat → Bool} {held : Bool}
theorem bd_cells {fuel : Nat} {cs : List Value} {x : DataW H × List MemPlace} (h : DataW.trod enc Tryd.prog W base spare held fuel 44 cs = some x) : ∃ tk : Bd, cs = encBd tk := by
  obtain ⟨xs, n, _, _, hlen, hxl, hf⟩ := DataW.trod_struct Tryd.underlying44 h
  have hl : cs.length = 4 := hlen.trans (by kernel_rfl)
  have fa := field_at (t := 44) (by kernel_rfl) (by rw [hl]; rfl) hxl hf
  obtain ⟨c0, y0, e0, t0⟩ := fa 0 _ rfl
  obtain ⟨c1, y1, e1, t1⟩ := fa 1 _ rfl
  obtain ⟨c2, y2, e2, t2⟩ := fa 2 _ rfl
  obtain ⟨c3, y3, e3, t3⟩ := fa 3 _ rfl
  obtain ⟨a0, z0, _, _⟩ := DataW.trod_string Tryd.underlying9 t0
  obtain ⟨a1, z1, _, _⟩ := DataW.trod_int Tryd.underlying3 t1
  obtain ⟨a2, z2, _⟩ := DataW.trod_bool Tryd.underlying4 t2
  obtain ⟨a3, z3, _, _⟩ := DataW.trod_int Tryd.underlying3 t3
  simp only [List.cons.injEq, and_true] at z0 z1 z2 z3
  subst z0 z1 z2 z3
  refine ⟨⟨a0, a1, a2, a3⟩, ?_⟩
  match cs, hl with
  | [_, _, _, _], _ =>
    simp at e0 e1 e2 e3
    simp [e0, e1, e2, e3]
end
section
variable {H : Type} {enc : TypeId × Value → H} {W : World}
theorem sc_read {fuel : Nat} {cs : List Value} {x : DataW H × List MemPlace} (h : DataW.trod enc Tryd.prog W 0 (fun _ => true) true fuel 26 cs = some x) : ∃ q : Sc × Value, cs = encSc q ∧ BdU (memOf W) q.1.names q.2 := by
  obtain ⟨xs, n, hfuel, hx, hlen, hxl, hf⟩ := DataW.trod_struct Tryd.underlying26 h
  have hl : cs.length = 5 := hlen.trans (by kernel_rfl)
  have fa := field_at' (t := 26) (by kernel_rfl) (by rw [hl]; rfl) hxl hf
  obtain ⟨c0, y0, e0, t0, g0⟩ := fa 0 _ rfl
  obtain ⟨c1, y1, e1, t1, g1⟩ := fa 1 _ rfl
  obtain ⟨c2, y2, e2, t2, g2⟩ := fa 2 _ rfl
  obtain ⟨c3, y3, e3, t3, g3⟩ := fa 3 _ rfl
  obtain ⟨c4, y4, e4, t4, g4⟩ := fa 4 _ rfl
  obtain ⟨a0, z0, u0, _⟩ := DataW.trod_int Tryd.underlying3 t0
  obtain ⟨a1, z1, u1, _⟩ := DataW.trod_int Tryd.underlying3 t1
  obtain ⟨a2, z2, u2, _⟩ := DataW.trod_int Tryd.underlying3 t2
  obtain ⟨a3, z3, u3, _⟩ := DataW.trod_int Tryd.underlying3 t3
  simp only [List.cons.injEq, and_true] at z0 z1 z2 z3
  subst z0 z1 z2 z3
  have hcs : cs = [.int .i64 a0, .int .i64 a1, .int .i64 a2, .int .i64 a3, c4] := by
    match cs, hl with
    | [_, _, _, _, _], _ =>
      simp at e0 e1 e2 e3 e4
      simp [e0, e1, e2, e3, e4]
  rcases DataW.trod_slice Tryd.underlying24 t4 with ⟨h0, _⟩ | ⟨a, len, cap, elems, rest, k, hk, h0, _, hb, hle, hm, hlen', hel, _⟩
  · simp only [List.cons.injEq, and_true] at h0
    subst h0
    exact ⟨(⟨a0, a1, a2, a3, []⟩, .slice none 0 0), hcs, none, 0, rfl, Sl.nil _ _ _ _, by simp⟩
  · simp only [List.cons.injEq, and_true] at h0
    subst h0
    have hex : ∀ i, i < len → ∃ y : Bd, MCells (memOf W) (a.add (i * 4)) (encBd y) := fun i hi => by
      have he := hel i hi
      rw [List.getElem?_eq_getElem (show i < elems.length by omega)] at he
      obtain ⟨cs', hc, ht'⟩ := Option.bind_eq_some_iff.1 he
      obtain ⟨t, rfl⟩ := bd_cells ht'
      refine ⟨t, fun j v hv => ?_⟩
      obtain ⟨_, hcl, hat⟩ := World.cells?_some hc
      have hs : Tryd.prog.cellsOf 44 = 4 := by kernel_rfl
      rw [hs] at hat hcl
      have hj : j < 4 := by
        have := (List.getElem?_eq_some_iff.1 hv).1
        simpa using this
      have := hat j hj
      rw [hv] at this
      exact MCell.of_cell this
    obtain ⟨l, hl1, hl2⟩ := exists_list len hex
    subst hl1
    exact ⟨(⟨a0, a1, a2, a3, l⟩, .slice (some a) l.length cap), hcs, some a, cap, rfl, ⟨rfl, fun _ => ⟨a, rfl, hl2⟩⟩, hle⟩
theorem open_scopes {r : Reach} {b0 : Nat} {v : Value} {d : DataW H} {p : List MemPlace} (hv : Value.okWide Tryd.prog W r b0 22 v) (h : DataW.Trod enc Tryd.prog W 0 (fun _ => true) true 22 v d p) :
    ∃ A c ps, v = .slice A ps.length c ∧ Sl encSc 5 (memOf W) A ps.length ps ∧ ps.length ≤ c ∧ ∀ q ∈ ps, BdU (memOf W) q.1.names q.2 := by
  obtain ⟨A, n, c, rfl⟩ := okWide_slice Tryd.underlying22 hv
  obtain ⟨fuel, hf⟩ := h
  rcases open_slice Tryd.underlying22 hf with ⟨hcs, _⟩ | ⟨a, len, cap, m, k, D, Pl, hcs, _, hl, hm, hmm, _, hi⟩
  · simp [Value.cells] at hcs
    obtain ⟨rfl, rfl, rfl⟩ := hcs
    exact ⟨none, 0, [], rfl, Sl.nil _ _ _ _, by simp, by simp⟩
  · simp [Value.cells] at hcs
    obtain ⟨rfl, rfl, rfl⟩ := hcs
    simp at hmm
    have hs : Tryd.prog.cellsOf 26 = 5 := by kernel_rfl
    have hex : ∀ i, i < n → ∃ y : Sc × Value, MCells (memOf W) (a.add (i * 5)) (encSc y) ∧ BdU (memOf W) y.1.names y.2 := fun i hin => by
      obtain ⟨cs', hc, ht'⟩ := hi i (by omega)
      obtain ⟨y, rfl, hq⟩ := sc_read ht'
      refine ⟨y, fun j u hu => ?_, hq⟩
      obtain ⟨_, hcl, hat⟩ := World.cells?_some hc
      rw [hs] at hat hcl
      have hj : j < 5 := by
        have := (List.getElem?_eq_some_iff.1 hu).1
        simpa using this
      have := hat j hj
      rw [hu] at this
      exact MCell.of_cell this
    obtain ⟨l, hl1, hl2⟩ := exists_list n hex
    subst hl1
    refine ⟨some a, c, l, rfl, ⟨rfl, fun _ => ⟨a, rfl, fun i x hx => (hl2 i x hx).1⟩⟩, by omega, fun x hx => ?_⟩
    obtain ⟨i, hi1⟩ := List.mem_iff_getElem?.1 hx
    exact (hl2 i x hi1).2
end
end
end Go.Proofs.YtccbkihnedpjcaaDoor
