/- Package outcome: the names of errors, completions and events. (and what leans on it). No statement of the seat is proved here. -/
import Derived.Test.YtmihpkdhfomcgaaGreatDoorMa
import Derived.Test.YtmihpkdhfomcgaaGreatDoorVm
import Derived.Test.YtmihpkdhfomcgaaGreatDoorVs
import Derived.Test.YtmihpkdhfomcgaaGreatDoorBor
import Derived.Test.YtmihpkdhfomcgaaGreatDoorSel
import Derived.Test.YtmihpkdhfomcgaaGreatDoorBlw
import Derived.Test.YtmihpkdhfomcgaaGreatDoorSt
import Derived.Test.YtmihpkdhfomcgaaGreatDoorMc
import Derived.Test.YtmihpkdhfomcgaaGreatDoorMb
import Derived.Lib.IndexMore
import Derived.Shelf.Strings.Cut
set_option maxRecDepth 20000
set_option maxHeartbeats 2000000
namespace Go.Proofs.YtmihpkdhfomcgaaGreatDoor
open Go.RowKit Go.Vcg Go.MapKept Ou
def mkE : List (Int × List UInt8) → Nat → List MapEntry
  | [], _ => []
  | (k, v) :: r, j => MapEntry.mk (.int .i64 k) (.string (ofB v)) j :: mkE r (j + 1)
def errM : List MapEntry := mkE errT 0
def foundB : List (Int × List UInt8) → Int → Bool
  | [], _ => false
  | (k, _) :: r, n => if n = k then true else foundB r n
theorem look_tab {P : Program} {et : TypeId} (hz : zeroT P et = some (.string ⟨#[]⟩)) (e : Int) : ∀ (l : List (Int × List UInt8)) (j i : Nat), lookV P et (Instr.findNow (.int .i64) (.int .i64 e) (mkE l j) i) = some (.string (ofB (tabB l e)), foundB l e)
  | [], j, i => by
    simp [mkE, Instr.findNow, lookV, hz, tabB, foundB]
    rfl
  | (k, v) :: r, j, i => by
    have ih := look_tab hz e r (j + 1) (i + 1)
    unfold mkE Instr.findNow tabB foundB
    by_cases h : e = k
    · subst h
      simp [Instr.sameNow, lookV]
    · have hk : (e == k) = false := by simpa using h
      simp [Instr.sameNow, hk, h]
      exact ih
attribute [local irreducible] G GC GQ GA GAop Calls IntKind.wrap Int.decLt Int.decLe
theorem errnos_spec (w : World) (μ : Mem) (hμ : MOk μ w) : Calls Tryz.prog 39 #[] w fun e w' => ∃ v μ', ∃ i : Nat, e = .returned v ∧ BackM [] w w' μ [.mp ⟨i, errM, 30⟩] μ' ∧ v = .map (some i) := by
  refine call_introM (args := []) (LB := []) Tryz.func39 rfl Tryz.ntmps39 (by simp) hμ ⟨by simp, by simp, List.Pairwise.nil⟩ ?_
  repeat' (first | refine KK ?_ | ((with_reducible apply g_mkmap); exact rfl; exact rfl; intro b) | ((with_reducible apply g_mapset); (first | exact .inl rfl | exact .inr rfl); (iterate 6 exact rfl); (first | exact trivial | exact rfl); (repeat first | with_reducible exact upm_hd | with_reducible apply upm_tl); exact rfl) | ((refine KB ?_ ?_ <;> intro hp)) | refine KG ?_ | fail)
  exact ret_bor (Ls := fun i => [.mp ⟨i, errM, 30⟩]) 1 b (by simp [idsOf]) rfl (by first | exact rv_tmp rfl | exact (rv_agg 0 rfl rfl rfl rfl rfl (by repeat first | exact lc_nil | refine lc_cons rfl ?_)) | exact (rv_agg 1 rfl rfl rfl rfl rfl (by repeat first | exact lc_nil | refine lc_cons rfl ?_)) | exact (rv_agg 2 rfl rfl rfl rfl rfl (by repeat first | exact lc_nil | refine lc_cons rfl ?_)) | exact (rv_agg 3 rfl rfl rfl rfl rfl (by repeat first | exact lc_nil | refine lc_cons rfl ?_))) rfl rfl (fun _ _ => rfl)
theorem errno_spec (e : Int) (w : World) (μ : Mem) (hμ : MOk μ w) : Calls Tryz.prog 14 #[.int .i64 e] w fun en w' => en = .returned (.string (ofB (errB e))) ∧ Below w.heap.size w w' := by
  refine call_intro (args := [.int .i64 e]) Tryz.func14 rfl Tryz.ntmps14 (by simp) hμ ?_
  have hl := look_tab (P := Tryz.prog) (et := 9) (by kernel_rfl) e errT 0 0
  repeat' (first | refine KO ?_ | (refine CF 39 ?_; (with_reducible apply g_enter_bor (Ls := fun i => [.mp ⟨i, errM, 30⟩]) 0); exact rfl; exact rfl; exact rfl; ((with_reducible apply e_call0); kernel_rfl); exact rfl; (exact fun w hw _ => errnos_spec w _ hw); (rintro v2 μ2 i hle2 rfl); (dsimp only [List.cons_append, List.nil_append])) | (refine KV (b := by first | ((with_reducible apply v_lookup); exact rfl; exact rfl; exact rfl; exact rfl; (first | exact trivial | exact rfl); (repeat first | with_reducible exact inm_hd | with_reducible apply inm_tl); exact hl) | ((with_reducible apply v_lookup); exact rfl; exact rfl; exact rfl; exact rfl; (first | exact trivial | exact rfl); (repeat first | with_reducible exact inm_hd | with_reducible apply inm_tl); exact rfl) | ((with_reducible apply v_lookup2); exact rfl; exact rfl; exact rfl; exact rfl; (first | exact trivial | exact rfl); (repeat first | with_reducible exact inm_hd | with_reducible apply inm_tl); exact rfl)) (c := ?_)) | refine KI ?_ | ((refine KB ?_ ?_ <;> intro hp)) | refine KG ?_ | fail)
  exact ret_s rfl rfl rfl
theorem ends_spec (k : Int) (w : World) (μ : Mem) (hμ : MOk μ w) : Calls Tryz.prog 16 #[.int .i64 k] w fun en w' => en = .returned (.string (ofB (endB k))) ∧ Below w.heap.size w w' := by
  have he : endB k = if k = 0 then [110, 111, 114, 109, 97, 108] else if k = 1 then [116, 104, 114, 111, 119] else if k = 6 then [115, 116, 111, 112] else [] := rfl
  refine call_intro (args := [.int .i64 k]) Tryz.func16 rfl Tryz.ntmps16 (by simp) hμ ?_
  rw [he]
  by_cases h0 : k = 0
  · rw [if_pos h0]
    repeat' (first | refine KK ?_ | ((refine KB ?_ ?_ <;> intro hp)) | refine KG ?_ | fail)
    all_goals first | (exfalso; omega) | exact ret_s rfl rfl rfl
  rw [if_neg h0]
  by_cases h1 : k = 1
  · rw [if_pos h1]
    repeat' (first | refine KK ?_ | ((refine KB ?_ ?_ <;> intro hp)) | refine KG ?_ | fail)
    all_goals first | (exfalso; omega) | exact ret_s rfl rfl rfl
  rw [if_neg h1]
  by_cases h6 : k = 6
  · rw [if_pos h6]
    repeat' (first | refine KK ?_ | ((refine KB ?_ ?_ <;> intro hp)) | refine KG ?_ | fail)
    all_goals first | (exfalso; omega) | exact ret_s rfl rfl rfl
  rw [if_neg h6]
  repeat' (first | refine KK ?_ | ((refine KB ?_ ?_ <;> intro hp)) | refine KG ?_ | fail)
  all_goals first | (exfalso; omega) | exact ret_s rfl rfl rfl
def evV : List Value := evT.map fun l => .string (ofB l)
theorem events_spec (w : World) (μ : Mem) (hμ : MOk μ w) : Calls Tryz.prog 18 #[] w fun e w' => ∃ v μ', ∃ i : Nat, e = .returned v ∧ BackM [] w w' μ [.inl ⟨i, 9, 13, idx 0 evV⟩] μ' ∧ v = .slice (some ⟨i, 0, none⟩) 13 13 := by
  refine call_introM (args := []) (LB := []) Tryz.func18 rfl Tryz.ntmps18 (by simp) hμ ⟨by simp, by simp, List.Pairwise.nil⟩ ?_
  repeat' (first | refine KK ?_ | refine NB fun b => ?_ | ((refine KB ?_ ?_ <;> intro hp)) | refine KG ?_ | fail)
  exact ret_bor (Ls := fun i => [.inl ⟨i, 9, 13, idx 0 evV⟩]) 1 b (by simp [idsOf]) rfl (by first | exact rv_tmp rfl | exact (rv_agg 0 rfl rfl rfl rfl rfl (by repeat first | exact lc_nil | refine lc_cons rfl ?_)) | exact (rv_agg 1 rfl rfl rfl rfl rfl (by repeat first | exact lc_nil | refine lc_cons rfl ?_)) | exact (rv_agg 2 rfl rfl rfl rfl rfl (by repeat first | exact lc_nil | refine lc_cons rfl ?_)) | exact (rv_agg 3 rfl rfl rfl rfl rfl (by repeat first | exact lc_nil | refine lc_cons rfl ?_))) rfl rfl (fun _ _ => rfl)
instance (n : Int) : Decidable (inB n) := by unfold inB; infer_instance
theorem oin_spec (n : Int) (w : World) (μ : Mem) (hμ : MOk μ w) : Calls Tryz.prog 37 #[.int .i64 n] w fun en w' => en = .returned (.bool (decide (inB n))) ∧ Below w.heap.size w w' := by
  refine call_intro (args := [.int .i64 n]) Tryz.func37 rfl Tryz.ntmps37 (by simp) hμ ?_
  by_cases h : inB n
  · rw [decide_eq_true h]
    obtain ⟨h1, h2⟩ := h
    repeat' (first | refine KK ?_ | ((refine KB ?_ ?_ <;> intro hp)) | refine KG ?_ | fail)
    all_goals first | (exfalso; omega) | exact ret_s rfl rfl rfl | (refine ret_s rfl rfl ?_; rw [decide_eq_true h2])
  · rw [decide_eq_false h]
    unfold inB at h
    repeat' (first | refine KK ?_ | ((refine KB ?_ ?_ <;> intro hp)) | refine KG ?_ | fail)
    all_goals first | (exfalso; omega) | exact ret_s rfl rfl rfl | (refine ret_s rfl rfl ?_; rw [decide_eq_false (by omega)])
end Go.Proofs.YtmihpkdhfomcgaaGreatDoor
namespace Go.Proofs.YtmihpkdhfomcgaaGreatDoor.Ou
open Go
theorem cut_one (c : UInt8) : ∀ l : List UInt8, Lib.cut l [c] = match cutB c l with | some (a, b) => (a, b, true) | none => (l, [], false)
  | [] => by
    simp [Lib.cut, cutB, Lib.index]
  | x :: r => by
    have ih := cut_one c r
    unfold Lib.cut at ih ⊢
    unfold cutB
    by_cases h : x = c
    · subst h
      have : Lib.index (x :: r) [x] = 0 := by simp [Lib.index]
      rw [this, if_pos rfl]
      simp
    · have hx : Lib.index (x :: r) [c] = if Lib.index r [c] == -1 then -1 else Lib.index r [c] + 1 := by
        show (if _ then _ else _) = _
        rw [if_neg (by simp; exact fun e => h e.symm)]
      have hge := Lib.index_ge r [c]
      rw [hx, if_neg h]
      by_cases h0 : 0 ≤ Lib.index r [c]
      · rw [if_pos h0] at ih
        have hne : ¬ ((Lib.index r [c] == -1) = true) := by simp; omega
        rw [if_neg hne, if_pos (by omega)]
        cases hc : cutB c r with
        | none =>
          rw [hc] at ih
          simp at ih
        | some p =>
          obtain ⟨a, b⟩ := p
          rw [hc] at ih
          simp only [Prod.mk.injEq] at ih
          have e1 : (Lib.index r [c] + 1).toNat = (Lib.index r [c]).toNat + 1 := by omega
          simp only [Option.map_some, e1, List.take_succ_cons]
          rw [ih.1]
          have : (Lib.index r [c]).toNat + 1 + [c].length = ((Lib.index r [c]).toNat + [c].length) + 1 := by omega
          rw [this, List.drop_succ_cons, ih.2.1]
      · rw [if_neg h0] at ih
        have he : Lib.index r [c] = -1 := by omega
        rw [he]
        simp only [beq_self_eq_true, if_true]
        rw [if_neg (by decide)]
        cases hc : cutB c r with
        | none => rfl
        | some p =>
          obtain ⟨a, b⟩ := p
          rw [hc] at ih
          simp at ih
end Go.Proofs.YtmihpkdhfomcgaaGreatDoor.Ou
namespace Go.Vcg
open Go.RowKit
theorem ret_n0 {P : Program} {w : World} {μ : Mem} {l : Slots} {L : List Bk} {fn : Func} {n : Nat} {μ0 : Mem} {e : Exit} (he : e = .ret ∨ e = .normal) (hr : fn.results = #[]) :
    GQ ⟨w, μ0, [], n⟩ (bodyPost P fn (fun en w' => en = .returned (.tuple #[]) ∧ Below w.heap.size w w')) e μ l L := fun a w' hs => by
  have hv : (results fn a.tmps).run P w' = .ok (.tuple #[]) w' := by simp [results, hr]
  rcases he with rfl | rfl
  all_goals exact ⟨hs.defers.none (by simp), _, hv, rfl, hs.keep.below⟩
end Go.Vcg
namespace Go.Proofs.YtmihpkdhfomcgaaGreatDoor
open Go.RowKit Go.Vcg Go.Shelf Ou
def MaxOk (μ : Mem) : Prop := ∃ m : Int, MCell μ ⟨0, 0, none⟩ (.int .i64 m)
theorem MaxOk.mono {μ μ' : Mem} (h : MaxOk μ) (hle : MLe μ μ') : MaxOk μ' := by
  obtain ⟨m, hm⟩ := h
  exact ⟨m, hm.mono hle⟩
def cutV (c : UInt8) (l : List UInt8) : Value := match Ou.cutB c l with
  | some (a, b) => .tuple #[.string (ofB a), .string (ofB b), .bool true]
  | none => .tuple #[.string (ofB l), .string (ofB []), .bool false]
theorem cut_spec (c : UInt8) (l : List UInt8) (hs : l.length ≤ 1000000) (w : World) (μ : Mem) (hμ : MOk μ w) (hm : MaxOk μ) :
    Calls Tryz.prog 47 #[.string (ofB l), .string (ofB [c])] w fun e w' => e = .returned (cutV c l) ∧ Below w.heap.size w w' := by
  obtain ⟨m, a, t, f, h1, h2, h3⟩ := hm
  have hc : w.cell? ⟨0, 0, none⟩ = some (.int .i64 m) := by
    have hw := hμ _ _ h1
    simp only at hw
    simp [World.cell?, hw, h3]
  refine (Any.strings_Cut Tryz.lays145 (ofB l) (ofB [c]) m w (show l.toArray.size < _ by simp; omega) hc).mono fun e w' he => ?_
  obtain ⟨rfl, n, rfl⟩ := he
  have hcut : Lib.cut (ofB l).data.toList (ofB [c]).data.toList = Lib.cut l [c] := by simp [ofB]
  refine ⟨?_, ?_⟩
  · rw [hcut, cut_one]
    unfold cutV
    cases Ou.cutB c l with
    | none => rfl
    | some p => obtain ⟨a, b⟩ := p; rfl
  · exact ⟨rfl, rfl, rfl, Nat.le_refl _, fun _ _ => rfl⟩
abbrev failO (e : Int) : Value := .iface 37 (.agg #[.int .i64 e])
attribute [local irreducible] G GC GQ GA GAop Calls IntKind.wrap Int.decLt Int.decLe
theorem must_ok (e : Int) (w : World) (μ : Mem) (hμ : MOk μ w) : Calls Tryz.prog 24 #[.bool true, .int .i64 e] w fun en w' => en = .returned (.tuple #[]) ∧ Below w.heap.size w w' := by
  refine call_intro (args := [.bool true, .int .i64 e]) Tryz.func24 rfl Tryz.ntmps24 (by simp) hμ ?_
  repeat' (first | refine KK ?_ | ((refine KB ?_ ?_ <;> intro hp)) | refine KG ?_ | fail)
  exact ret_n0 (.inr rfl) rfl
theorem must_err (e : Int) (w : World) (μ : Mem) (hμ : MOk μ w) : Calls Tryz.prog 24 #[.bool false, .int .i64 e] w fun en w' => en = .panicked (pan (failO e)) ∧ GrowM [] w w' μ μ := by
  refine call_introM (args := [.bool false, .int .i64 e]) (LB := []) Tryz.func24 rfl Tryz.ntmps24 (by simp) hμ ⟨by simp, by simp, List.Pairwise.nil⟩ ?_
  repeat' (first | ((with_reducible (first | apply gq_then_panic | apply gq_block_panic))) | refine KO ?_ | ((with_reducible apply g_panic); exact rfl; exact rfl) | (refine KV (b := by first | ((with_reducible apply v_iface); exact rfl; exact rfl)) (c := ?_)) | refine KI ?_ | ((refine KB ?_ ?_ <;> intro hp)) | refine KG ?_ | fail)
  exact gq_pan (by simp [idsOf]) (fun w' hg => ⟨rfl, hg⟩)
theorem digits_spec' (n : Int) (w : World) (μ : Mem) (hμ : MOk μ w) (hT : TabOk μ) : Calls Tryz.prog 15 #[.int .i64 n] w fun en w' => en = .returned (.string (textF (ofF n))) ∧ Below w.heap.size w w' := by
  refine call_intro (args := [.int .i64 n]) Tryz.func15 rfl Tryz.ntmps15 (by simp) hμ ?_
  repeat' (first | refine KO ?_ | ((with_reducible apply F1 41); exact rfl; exact EN; (exact fun w μc hw hse => of_spec _ w μc hw)) | ((with_reducible apply F1 40); exact rfl; exact EN; (exact fun w μc hw hse => text_spec w μc hw (hT.mono hse.le) _)) | refine KI ?_ | ((refine KB ?_ ?_ <;> intro hp)) | refine KG ?_ | fail)
  exact ret_s rfl rfl rfl
theorem textF_of {n : Int} (h : inB n) : textF (ofF n) = ofB (Lib.itoa n) := by
  have hi : inF n = true := by unfold inF; obtain ⟨h1, h2⟩ := h; simp; omega
  unfold textF ofF
  rw [if_pos hi, if_pos (by unfold wholeF; simp [hi, noS])]
  rfl
theorem number_eq (s : ByteArray) : (if (readF (bl s)).k = 3 ∧ 0 ≤ (readF (bl s)).n ∧ textF (ofF (readF (bl s)).n) = s then some (readF (bl s)).n else none) = numB (byS s) := by
  have hr : ∀ v : V, (∃ n, v = ofF n) ∨ v = nanV → v.k = 3 → inF v.n = true := by
    intro v hv hk
    rcases hv with ⟨n, rfl⟩ | rfl
    · unfold ofF at hk ⊢
      split at hk
      · rename_i h; rw [if_pos h]; exact h
      · exact absurd hk (by decide)
    · exact absurd hk (by decide)
  have hor : ∀ (r : Int × Bool) (g : Int), (∃ n, numOr r g = ofF n) ∨ numOr r g = nanV := fun r g => by
    unfold numOr
    split
    · exact .inl ⟨_, rfl⟩
    · exact .inr rfl
  have hform : (∃ n, readF (bl s) = ofF n) ∨ readF (bl s) = nanV := by
    unfold readF readT
    split
    · exact .inl ⟨_, rfl⟩
    split
    · exact hor _ _
    · exact hor _ _
  cases hn : numB (byS s) with
  | some n =>
    obtain ⟨h1, h2⟩ := numB_some hn
    have h3 : readF (bl s) = ofF n := by
      have := read_itoa n ⟨by have := h1.1; omega, h1.2⟩
      rw [← this, h2]
      rfl
    have hi : inF n = true := by unfold inF; obtain ⟨h1, h2⟩ := h1; simp; omega
    have h4 : ofF n = ⟨3, n, noS⟩ := by unfold ofF; rw [if_pos hi]
    have h5 : textF (ofF n) = s := by rw [textF_of h1, h2]; exact ofB_byS s
    rw [h3, h4]
    dsimp only
    rw [if_pos ⟨rfl, h1.1, h5⟩]
  | none =>
    split
    · rename_i hc
      obtain ⟨c1, c2, c3⟩ := hc
      have hi := hr _ hform c1
      generalize readF (bl s) = v at c1 c2 c3 hi
      have hb : inB v.n := ⟨c2, by unfold inF at hi; simp at hi; exact hi.2⟩
      rw [textF_of hb] at c3
      have h6 : byS s = Lib.itoa v.n := by rw [← c3]; exact byS_ofB _
      rw [h6, numB_itoa hb] at hn
      cases hn
    · rfl
theorem must_okb {b : Bool} (hb : b = true) (e : Int) (w : World) (μ : Mem) (hμ : MOk μ w) : Calls Tryz.prog 24 #[.bool b, .int .i64 e] w fun en w' => en = .returned (.tuple #[]) ∧ Below w.heap.size w w' := by
  subst hb; exact must_ok e w μ hμ
theorem must_errb {b : Bool} (hb : b = false) (e : Int) (w : World) (μ : Mem) (hμ : MOk μ w) : Calls Tryz.prog 24 #[.bool b, .int .i64 e] w fun en w' => en = .panicked (pan (failO e)) ∧ GrowM [] w w' μ μ := by
  subst hb; exact must_err e w μ hμ
theorem number_ok {s : ByteArray} {n : Int} (hs : s.size ≤ 1000000) (h : numB (byS s) = some n) (w : World) (μ : Mem) (hμ : MOk μ w) (hT : TabOk μ) :
    Calls Tryz.prog 27 #[.string s] w fun en w' => en = .returned (.int .i64 n) ∧ Below w.heap.size w w' := by
  have hne := number_eq s
  rw [h] at hne
  split at hne
  · rename_i hc
    obtain ⟨c1, c2, c3⟩ := hc
    have hvn := Option.some.inj hne
    have hrd := fun (w : World) (μ : Mem) (hμ : MOk μ w) => read_spec s (by omega) w μ hμ
    generalize readF (bl s) = v at c1 c2 c3 hvn hrd
    refine call_intro (args := [.string s]) Tryz.func27 rfl Tryz.ntmps27 (by simp) hμ ?_
    repeat' (first | refine KO ?_ | ((with_reducible apply F1 49); exact rfl; exact EN; (exact fun w μc hw hse => hrd w μc hw)) | ((with_reducible apply F1 15); exact rfl; exact EN; (exact fun w μc hw hse => digits_spec' _ w μc hw (hT.mono hse.le))) | ((with_reducible apply F1 24); exact rfl; exact EN; (exact fun w μc hw hse => must_okb (decide_eq_true c3) _ w μc hw)) | refine KI ?_ | refine NB fun b => ?_ | ((refine KB ?_ ?_ <;> intro hp)) | refine KG ?_ | fail)
    all_goals first | (exfalso; omega) | exact ret_s rfl rfl (by rw [hvn])
  · cases hne
theorem number_err {s : ByteArray} (hs : s.size ≤ 1000000) (h : numB (byS s) = none) (w : World) (μ : Mem) (hμ : MOk μ w) (hT : TabOk μ) :
    Calls Tryz.prog 27 #[.string s] w fun en w' => en = .panicked (pan (failO 7)) ∧ GrowM [] w w' μ μ := by
  have hne := number_eq s
  rw [h] at hne
  split at hne
  · cases hne
  · rename_i hc
    have hrd := fun (w : World) (μ : Mem) (hμ : MOk μ w) => read_spec s (by omega) w μ hμ
    generalize readF (bl s) = v at hc hrd
    refine call_introM (args := [.string s]) (LB := []) Tryz.func27 rfl Tryz.ntmps27 (by simp) hμ ⟨by simp, by simp, List.Pairwise.nil⟩ ?_
    by_cases c1 : v.k = 3
    · by_cases c2 : 0 ≤ v.n
      · have c3 : ¬ textF (ofF v.n) = s := fun h => hc ⟨c1, c2, h⟩
        repeat' (first | ((with_reducible (first | apply gq_then_panic | apply gq_block_panic))) | refine KO ?_ | ((with_reducible apply F1 49); exact rfl; exact EN; (exact fun w μc hw hse => hrd w μc hw)) | ((with_reducible apply F1 15); exact rfl; exact EN; (exact fun w μc hw hse => digits_spec' _ w μc hw (hT.mono hse.le))) | (refine CF 24 ?_; (with_reducible apply g_enter_pan 0); exact rfl; ((with_reducible apply e_call2); kernel_rfl; exact rfl; exact rfl); exact rfl; (exact fun w hw _ => must_errb (decide_eq_false c3) _ w _ hw)) | refine KI ?_ | refine NB fun b => ?_ | ((refine KB ?_ ?_ <;> intro hp)) | refine KG ?_ | fail)
        all_goals first | (exfalso; omega) | exact gq_pan (by simp [idsOf]) (fun w' hg => ⟨rfl, hg⟩)
      · repeat' (first | ((with_reducible (first | apply gq_then_panic | apply gq_block_panic))) | refine KO ?_ | ((with_reducible apply F1 49); exact rfl; exact EN; (exact fun w μc hw hse => hrd w μc hw)) | (refine CF 24 ?_; (with_reducible apply g_enter_pan 0); exact rfl; ((with_reducible apply e_call2); kernel_rfl; exact rfl; exact rfl); exact rfl; (exact fun w hw _ => must_errb rfl _ w _ hw)) | refine KI ?_ | refine NB fun b => ?_ | ((refine KB ?_ ?_ <;> intro hp)) | refine KG ?_ | fail)
        all_goals first | (exfalso; omega) | exact gq_pan (by simp [idsOf]) (fun w' hg => ⟨rfl, hg⟩)
    · repeat' (first | ((with_reducible (first | apply gq_then_panic | apply gq_block_panic))) | refine KO ?_ | ((with_reducible apply F1 49); exact rfl; exact EN; (exact fun w μc hw hse => hrd w μc hw)) | (refine CF 24 ?_; (with_reducible apply g_enter_pan 0); exact rfl; ((with_reducible apply e_call2); kernel_rfl; exact rfl; exact rfl); exact rfl; (exact fun w hw _ => must_errb rfl _ w _ hw)) | refine KI ?_ | refine NB fun b => ?_ | ((refine KB ?_ ?_ <;> intro hp)) | refine KG ?_ | fail)
      all_goals first | (exfalso; omega) | exact gq_pan (by simp [idsOf]) (fun w' hg => ⟨rfl, hg⟩)
end Go.Proofs.YtmihpkdhfomcgaaGreatDoor
