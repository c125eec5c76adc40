/- The statement 'for .. := range f': its rule; the return of a function that holds one. No statement of the seat is proved here. -/
import Derived.Test.YtnllooebophcpaaDoorRng2
set_option maxRecDepth 20000
namespace Go.Vcg
open Go.RowKit
section
variable {P : Program} {X : Ctx} {Q : Exit → Act → World → Prop} {μ : Mem} {l : Slots} {L : List Bk} {a : Act} {w : World}
theorem enters_callable {f : FuncId} (hf : callable P f = true) : ∀ args w, (callFunc f args).run P w = .ok (.enter f args) w := fun args w => by
  unfold callable at hf
  cases h : P.funcs[f]? with
  | none => simp [h] at hf
  | some fn =>
    simp only [h, Bool.and_eq_true, Bool.not_eq_true'] at hf
    obtain ⟨hb, hn⟩ := hf
    have hb2 : ¬ fn.body = none := fun e => by rw [e] at hb; cases hb
    have hn2 : ¬ fn.name = "runtime.NumGoroutine" := by simpa using hn
    simp [callFunc, h, hn2, hb2]
theorem gc_rangeFunc {α ι κ : Type} {g : Operand} {ps : List Nat} {assign body : Code} {gf : Nat} {lb : List Value} {enc : α → List Value} {Ok : List α → α → Prop} {N : Nat} {S Sp : List α → Prop}
    (hg : ev l g = some (.func (.func gf) #[] lb.toArray)) (heg : callable P gf = true)
    (hps : ∀ x, (enc x).length = ps.length) (hpn : ∀ p ∈ ps, p < X.n) (hseq : SeqW P gf lb enc Ok μ N S Sp)
    (JJ : List α → ι → Prop) (JX : Code → List α → ι → Prop) (Ls : ι → List Bk) (i0 : ι) (h0 : JJ [] i0) (hL0 : Sel (Ls i0) L) (la : α → κ → Slots) (La : α → ι → κ → List Bk)
    (hassign : ∀ lr pre x i w1, Ok pre x → GCI P (Fence.wide.inRound lr) 0 ⟨w1, μ, idsOf (Ls i), X.n⟩ assign (AQ ⟨w1, μ, idsOf (Ls i), X.n⟩ μ (la x) (La x i)) μ (setS (ps.zip (enc x)) l) (Ls i))
    (hbody : ∀ lr pre x i k w2, Ok pre x → JJ pre i → pre.length < N → GCI P (Fence.wide.inRound lr) 0 ⟨w2, μ, idsOf (La x i k), X.n⟩ body (BQ ⟨w2, μ, idsOf (La x i k), X.n⟩ μ JJ JX Ls (pre ++ [x])) μ (la x k) (La x i k))
    (hdone : ∀ D μD xs j, X.w0.heap.size ≤ D → MLe μ μD → S xs → JJ xs j → GQ ⟨X.w0, X.μ0, D :: D :: X.M, X.n⟩ Q .normal μD l (Ls j))
    (hstop : ∀ D μD c pre j, X.w0.heap.size ≤ D → MLe μ μD → Sp pre → JX c pre j → GC P ⟨X.w0, X.μ0, D :: D :: X.M, X.n⟩ c Q μD l (Ls j)) :
    GC P X (.rangeFunc g ps.toArray assign body) Q μ l L := by
  intro a w hs
  have eg := enters_callable heg
  refine (wpIn_wide (n := 0)).1 (wpIn_rangeFunc ?_)
  intro fn hfn
  obtain ⟨rec, hrec⟩ : ∃ rec : LoopState → Option Code → Loop, rec = fun st pe => { state := st, pending := pe, fn, tmps := a.tmps, params := ps.toArray, assign, body, defers := w.heap.size } := ⟨_, rfl⟩
  obtain ⟨W1, hW1⟩ : ∃ W1, (w.alloc (.deferred (some []))).alloc (.loop (rec .ready none)) = W1 := ⟨_, rfl⟩
  have hL1 : W1.heap[w.heap.size + 1]? = some (.loop (rec .ready none)) := by
    rw [← hW1]; have := World.alloc_heap_new (w.alloc (.deferred (some []))) (.loop (rec .ready none)); rwa [World.size_alloc] at this
  have hK1 : W1.heap[w.heap.size]? = some (.deferred (some [])) := by
    rw [← hW1]; exact (Below.heap_alloc _ _ _ (by simp)).trans (World.alloc_heap_new w _)
  have hb1 : Below w.heap.size w W1 := by
    rw [← hW1]; exact ((Below.refl _ w).alloc (Nat.le_refl _) _).alloc (by simp) _
  have hμD : μ w.heap.size = none := mok_new hs.mem (Nat.le_refl _)
  have hμl : μ (w.heap.size + 1) = none := mok_new hs.mem (Nat.le_succ _)
  have hw0 : X.w0.heap.size ≤ w.heap.size := hs.keep.size
  refine ⟨w.heap.size + 1, [{ target := .collected w.heap.size, args := #[] }], W1, { target := .fn (.func gf) lb.toArray, args := #[.func (.yield (w.heap.size + 1)) #[] #[]] }, W1, gf,
    (Value.func (.yield (w.heap.size + 1)) #[] #[] :: lb).toArray, W1, ?_, ?_, ?_, ?_, fun e => by simp [Fence.wide] at e, ?_⟩
  · rw [← hW1, hrec]; exact run_enterLoop_outer _ _ _ _ _
  · have he := hs.eval hg
    simp only [resolve, he]
    simp [go_sem]
  · intro f' _; trivial
  · simp [invoke, go_sem, eg]
  refine callsIn_wide.2 ((hseq (w.heap.size + 1)
    (fun pre W => ∃ i, JJ pre i ∧ St X μ l (Ls i) a W ∧ W.heap[w.heap.size + 1]? = some (.loop (rec .ready none)) ∧ W.heap[w.heap.size]? = some (.deferred (some [])))
    (fun pre W => ∃ c i, JX c pre i ∧ St X μ l (Ls i) a W ∧ W.heap[w.heap.size + 1]? = some (.loop (rec .done (some c))) ∧ W.heap[w.heap.size]? = some (.deferred (some [])))
    W1 ?_ ?_ ?_ ?_ ?_).mono ?_)
  · exact (hs.drop_world hb1).mem
  · rintro pre W W' ⟨i, h1, h2, h3, h4⟩ hb
    exact ⟨i, h1, h2.drop_world hb, (hb.block _ (Array.getElem?_eq_some_iff.1 h3).1).trans h3, (hb.block _ (Array.getElem?_eq_some_iff.1 h4).1).trans h4⟩
  · rintro pre W W' ⟨c, i, h1, h2, h3, h4⟩ hb
    exact ⟨c, i, h1, h2.drop_world hb, (hb.block _ (Array.getElem?_eq_some_iff.1 h3).1).trans h3, (hb.block _ (Array.getElem?_eq_some_iff.1 h4).1).trans h4⟩
  · -- a round
    rintro pre x Wp W hok ⟨i, hJ, hsp, hlp, hkp⟩ hbel hlen
    have hst := hsp.drop_world hbel
    have hl : W.heap[w.heap.size + 1]? = some (.loop (rec .ready none)) := (hbel.block _ (Array.getElem?_eq_some_iff.1 hlp).1).trans hlp
    have hk : W.heap[w.heap.size]? = some (.deferred (some [])) := (hbel.block _ (Array.getElem?_eq_some_iff.1 hkp).1).trans hkp
    have hlt : w.heap.size + 1 < W.heap.size := (Array.getElem?_eq_some_iff.1 hl).1
    have hy := run_yield (P := P) (args := (enc x).toArray) hl (by rw [hrec]; simpa using hps x)
    rw [hrec] at hy
    have hfold := setS_ok (ps.zip (enc x)) (l := l) (tmps := a.tmps) (fun y hy => by rw [hs.size]; exact hpn _ (List.of_mem_zip hy).1) hst.slots
    rw [← params_fold] at hfold
    have hids : w.heap.size + 1 ∉ idsOf (Ls i) := ids_ne hst.own hl
    have hidD : w.heap.size ∉ idsOf (Ls i) := fun hm => by
      obtain ⟨y, hy, hyb⟩ := mem_idsOf.1 hm
      have := Bk.isBk (hst.own y hy) hyb hk
      cases this
    have hs1 : St ⟨W, μ, idsOf (Ls i), X.n⟩ μ (setS (ps.zip (enc x)) l) (Ls i) { tmps := (ps.toArray.zip (enc x).toArray).foldl (fun t (p, v) => t.setIfInBounds p v) a.tmps, defers := [] } W :=
      hst.base (by rw [← hs.size]; exact hfold.2) rfl hfold.1 hst.mem hst.own
    refine ⟨fn, _, assign, body, hy, roundIn_of_wpIn hfn (wpIn_mono (hassign _ pre x i W hok _ _ hs1) ?_)⟩
    rintro e a1 w1 hq
    cases e with
    | normal =>
      obtain ⟨k, hq⟩ : ∃ k, St ⟨W, μ, idsOf (Ls i), X.n⟩ μ (la x k) (La x i k) a1 w1 := hq
      have hl1 : w1.heap[w.heap.size + 1]? = some (.loop (rec .ready none)) := (hq.keep.block _ hlt hids).trans hl
      have hk1 : w1.heap[w.heap.size]? = some (.deferred (some [])) := (hq.keep.block _ (show w.heap.size < W.heap.size by omega) hidD).trans hk
      have hlt1 := (Array.getElem?_eq_some_iff.1 hl1).1
      refine ⟨_, run_beginRound hl1 (by rw [hrec]), ?_⟩
      have hl2 : (w1.putObj (w.heap.size + 1) (.loop { rec .ready none with state := .busy })).heap[w.heap.size + 1]? = some (.loop { rec .ready none with state := .busy }) := World.putObj_heap_same hlt1
      have hk2 : (w1.putObj (w.heap.size + 1) (.loop { rec .ready none with state := .busy })).heap[w.heap.size]? = some (.deferred (some [])) := (World.putObj_heap_other (by omega)).trans hk1
      have hg2 := grownBy_putObj' w1 (w.heap.size + 1) (.loop { rec .ready none with state := .busy })
      have ho2 : ∀ b, b ≠ w.heap.size + 1 → (w1.putObj (w.heap.size + 1) (.loop { rec .ready none with state := .busy })).heap[b]? = w1.heap[b]? := fun b hb => World.putObj_heap_other hb
      have hown2 := own_put (o' := .loop { rec .ready none with state := .busy }) hq.own hl1
      have hmem2 := mok_put (o' := .loop { rec .ready none with state := .busy }) hq.mem hμl
      generalize w1.putObj (w.heap.size + 1) (.loop { rec .ready none with state := .busy }) = w2 at hl2 hk2 hg2 ho2 hown2 hmem2 ⊢
      have hMlt : ∀ D ∈ idsOf (Ls i), D < W.heap.size := fun D hD => by
        obtain ⟨y, hy, hyb⟩ := mem_idsOf.1 hD
        exact Bk.lt (hst.own y hy) hyb
      have hs2 : St ⟨w2, μ, idsOf (La x i k), X.n⟩ μ (la x k) (La x i k) a1 w2 := ⟨hq.size, by rw [hq.defers.none' hMlt]; exact Marks.nil, hq.slots, Keep.refl _ _, hmem2, MLe.refl _, fun _ _ _ h => h, hown2, hq.priv, fun y hy b hb => .inl (mem_idsOf.2 ⟨y, hy, hb⟩), hq.diff⟩
      · refine wpIn_mono (hbody _ pre x i k w2 hok hJ hlen _ _ hs2) ?_
        have fin : ∀ (jump : Option Code) (j : ι) (a3 : Act) (w3 : World), St ⟨w2, μ, idsOf (La x i k), X.n⟩ μ [] (Ls j) a3 w3 → ∃ W4, (Instr.endRound (w.heap.size + 1) jump).run P w3 = .ok (.bool jump.isNone) W4 ∧
            St X μ l (Ls j) a W4 ∧ W4.heap[w.heap.size + 1]? = some (.loop (rec (if jump.isNone then .ready else .done) jump)) ∧ W4.heap[w.heap.size]? = some (.deferred (some [])) ∧ (∀ b, Wp.heap.size ≤ b → b < W.heap.size → W4.heap[b]? = W.heap[b]?) := by
          intro jump j a3 w3 hq3
          have hidD2 : w.heap.size ∉ idsOf (La x i k) := fun hm => by
            obtain ⟨y, hy, hyb⟩ := mem_idsOf.1 hm
            have := Bk.isBk (hown2 y hy) hyb hk2
            cases this
          have hLa : ∀ b ∈ idsOf (La x i k), b ∈ idsOf (Ls i) ∨ W.heap.size ≤ b := fun b hb => by
            obtain ⟨y, hy, hyb⟩ := mem_idsOf.1 hb
            exact hq.new y hy b hyb
          have hl3 : w3.heap[w.heap.size + 1]? = some (.loop { rec .ready none with state := .busy }) := (hq3.keep.block _ (Array.getElem?_eq_some_iff.1 hl2).1 (ids_ne hown2 hl2)).trans hl2
          have hk3 : w3.heap[w.heap.size]? = some (.deferred (some [])) := (hq3.keep.block _ (Array.getElem?_eq_some_iff.1 hk2).1 hidD2).trans hk2
          have hend := run_endRound (P := P) jump hl3
          have hg4 := grownBy_putObj' w3 (w.heap.size + 1) (.loop { { rec .ready none with state := .busy } with state := if jump.isNone then .ready else .done, pending := jump })
          have hchain : ∀ b, b < W.heap.size → b ∉ idsOf (Ls i) → b ≠ w.heap.size + 1 → (w3.putObj (w.heap.size + 1) (.loop { { rec .ready none with state := .busy } with state := if jump.isNone then .ready else .done, pending := jump })).heap[b]? = W.heap[b]? := fun b hb hbi hbl => by
            rw [World.putObj_heap_other hbl, hq3.keep.block b (Nat.lt_of_lt_of_le hb (Nat.le_trans hq.keep.size hg2.size)) (fun hbL => (hLa b hbL).elim hbi (fun hle => by omega)), ho2 b hbl]
            exact hq.keep.block b hb hbi
          refine ⟨_, hend, ?_, ?_, (World.putObj_heap_other (by omega)).trans hk3, fun b hb hbW => ?_⟩
          · refine hst.unbase hq3 (fun b hb => (hLa b hb).elim .inl (fun hle => .inr (Nat.le_trans hst.keep.size hle))) (mok_put hq3.mem hμl) (own_put hq3.own hl3) ?_ ?_
            · exact Nat.le_trans hst.keep.size (Nat.le_trans hq.keep.size hg2.size)
            · refine ⟨?_, ?_, ?_, ?_, fun b hb hM => ?_⟩
              · exact hg4.os.trans (hq3.keep.os.trans (hg2.os.trans (hq.keep.os.trans hst.keep.os)))
              · exact hg4.tape.trans (hq3.keep.tape.trans (hg2.tape.trans (hq.keep.tape.trans hst.keep.tape)))
              · exact hg4.output.trans (hq3.keep.output.trans (hg2.output.trans (hq.keep.output.trans hst.keep.output)))
              · exact Nat.le_trans hst.keep.size (Nat.le_trans hq.keep.size (Nat.le_trans hg2.size (Nat.le_trans hq3.keep.size hg4.size)))
              · rw [hchain b (Nat.lt_of_lt_of_le hb hst.keep.size) (fun hbi => ?_) (by omega)]
                · exact hst.keep.block b hb hM
                · obtain ⟨y, hy, hyb⟩ := mem_idsOf.1 hbi
                  rcases hst.new y hy b hyb with h | h
                  · exact hM h
                  · omega
          · rw [World.putObj_heap_same (Array.getElem?_eq_some_iff.1 hl3).1, hrec]
          · refine hchain b hbW (fun hbi => ?_) (fun e => ?_)
            · obtain ⟨y, hy, hyb⟩ := mem_idsOf.1 hbi
              have := Bk.lt (hsp.own y hy) hyb
              omega
            · have := (Array.getElem?_eq_some_iff.1 hlp).1
              omega
        rintro e a3 w3 hp
        cases e with
        | normal =>
          obtain ⟨j, hj, hs3⟩ := hp
          obtain ⟨W4, h1, h2, h3, h4, h5⟩ := fin none j a3 w3 hs3
          exact ⟨_, _, h1, .inl ⟨rfl, ⟨j, hj, h2, h3, h4⟩, h2.mem, h5⟩⟩
        | ret =>
          obtain ⟨j, hj, hs3⟩ := hp
          obtain ⟨W4, h1, h2, h3, h4, h5⟩ := fin (some .ret) j a3 w3 hs3
          exact ⟨_, _, h1, .inr ⟨rfl, _, j, hj, h2, h3, h4⟩⟩
        | exit id =>
          obtain ⟨j, hj, hs3⟩ := hp
          obtain ⟨W4, h1, h2, h3, h4, h5⟩ := fin (some (.exit id)) j a3 w3 hs3
          exact ⟨_, _, h1, .inr ⟨rfl, _, j, hj, h2, h3, h4⟩⟩
        | goto t => exact hp.elim
        | panic ch => exact hp.elim
        | outgrown => exact hp.elim
    | exit id => exact hq.elim
    | goto t => exact hq.elim
    | ret => exact hq.elim
    | panic chain => exact hq.elim
    | outgrown => exact hq.elim
  · exact ⟨i0, h0, (hs.sel (fun _ _ h => h) hL0).drop_world hb1, hL1, hK1⟩
  · rintro e W2 ⟨⟨v, rfl⟩, h⟩
    have hend' : ∀ j st pe (o' : Obj), St X μ l (Ls j) a W2 → W2.heap[w.heap.size + 1]? = some (.loop (rec st pe)) → W2.heap[w.heap.size]? = some (.deferred (some [])) →
        ∃ μD, MLe μ μD ∧ St ⟨X.w0, X.μ0, w.heap.size :: w.heap.size :: X.M, X.n⟩ μD l (Ls j) { a with defers := [{ target := .collected w.heap.size, args := #[] }] ++ a.defers } (W2.putObj (w.heap.size + 1) o') := by
      intro j st pe o' hst hl hk
      have hg4 := grownBy_putObj' W2 (w.heap.size + 1) o'
      have hle : MLe μ (fun b => if b = w.heap.size then some (.deferred (some [])) else μ b) := fun b o e => by
        by_cases hb : b = w.heap.size
        · subst hb; rw [hμD] at e; cases e
        · simp [hb, e]
      have hidD : w.heap.size ∉ idsOf (Ls j) := fun hm => by
        obtain ⟨y, hy, hyb⟩ := mem_idsOf.1 hm
        have := Bk.isBk (hst.own y hy) hyb hk
        cases this
      refine ⟨_, hle, hst.size, ?_, hst.slots, ?_, fun b o e => ?_, hst.from0.trans hle, fun b hb hM h0 => ?_, own_put hst.own hl, fun y hy b hb => ?_, fun y hy b hb => ?_, hst.diff⟩
      · obtain ⟨Ds, h1, h2, h3⟩ := hst.defers
        refine ⟨w.heap.size :: Ds, by simp [h1], List.nodup_cons.2 ⟨fun hm => ?_, h2⟩, fun D hD => ?_⟩
        · have := (h3 _ hm).2.2
          rw [hμD] at this
          cases this
        · rcases List.mem_cons.1 hD with rfl | hD
          · exact ⟨by simp, hw0, by simp⟩
          · obtain ⟨h4, h5, h6⟩ := h3 D hD
            refine ⟨?_, h5, hle _ _ h6⟩
            have := List.count_le_count_cons (a := D) (b := w.heap.size) (l := X.M)
            have := List.count_le_count_cons (a := D) (b := w.heap.size) (l := w.heap.size :: X.M)
            show 2 ≤ List.count D (w.heap.size :: w.heap.size :: X.M)
            omega
      · refine ⟨hg4.os.trans hst.keep.os, hg4.tape.trans hst.keep.tape, hg4.output.trans hst.keep.output, Nat.le_trans hst.keep.size hg4.size, fun b hb hM => ?_⟩
        have hb : b < X.w0.heap.size := hb
        rw [World.putObj_heap_other (by omega)]
        exact hst.keep.block b hb (fun h => hM (by simp [h]))
      · by_cases hb : b = w.heap.size
        · subst hb
          simp at e
          subst e
          rw [World.putObj_heap_other (by omega)]
          exact hk
        · simp [hb] at e
          exact mok_put hst.mem hμl b o e
      · have hb : b < X.w0.heap.size := hb
        have hbn : b ≠ w.heap.size := by omega
        simp only [hbn, if_false]
        exact hst.fresh b hb (fun h => hM (by simp [h])) h0
      · have hbn : b ≠ w.heap.size := fun e => hidD (mem_idsOf.2 ⟨y, hy, by rw [hb, e]⟩)
        simp only [hbn, if_false]
        exact hst.priv y hy b hb
      · rcases hst.new y hy b hb with h | h
        · exact .inl (by simp [h])
        · exact .inr h
    rcases h with ⟨xs, hS, j, hJ, hst, hl, hk⟩ | ⟨pre, hSp, c, j, hJ, hst, hl, hk⟩
    · obtain ⟨μD, hle, hst4⟩ := hend' j _ _ (.loop { rec .ready none with state := .exhausted }) hst hl hk
      have he := run_endLoop (P := P) hl (by rw [hrec]; simp)
      refine ⟨none, _, ?_, hdone _ μD xs j hw0 hle hS hJ _ _ hst4⟩
      rw [he, hrec]
    · obtain ⟨μD, hle, hst4⟩ := hend' j _ _ (.loop { rec .done (some c) with state := .exhausted }) hst hl hk
      have he := run_endLoop (P := P) hl (by rw [hrec]; simp)
      refine ⟨some c, _, ?_, wpIn_wide.2 (hstop _ μD c pre j hw0 hle hSp hJ _ _ hst4)⟩
      rw [he, hrec]
/-- what the body of a function must achieve that holds such a statement and does not panic -/
def postR (P : Program) (fn : Func) (R : Ending → World → Prop) : Exit → Act → World → Prop
  | .normal, a, w => LeavesInM Fence.wide 0 P fn a.tmps R a.defers .returning w
  | .ret, a, w => LeavesInM Fence.wide 0 P fn a.tmps R a.defers .returning w
  | .exit _, _, _ => False
  | .goto _, _, _ => False
  | .panic _, _, _ => False
  | .outgrown, _, _ => False
/-- entry of a function that holds such a statement -/
theorem call_introR {f : FuncId} {fn : Func} {c : Code} {args : List Value} {n : Nat} {R : Ending → World → Prop} (hf : P.funcs[f]? = some fn) (hb : fn.body = some c) (hn : fn.ntmps = n) (hsz : args.length ≤ n)
    (hμ : MOk μ w) (h : GC P ⟨w, μ, [], n⟩ c (postR P fn R) μ (idx 0 args) []) : Calls P f args.toArray w R := by
  refine callsIn_wide.1 (callsIn_of_wp_marks (n := 0) hf hb trivial (wpIn_mono (wpIn_wide.2 (h _ _ ⟨?_, Marks.nil, fun t v hv => ?_, Keep.refl _ _, hμ, MLe.refl _, fun _ _ _ h => h, by simp, by simp, by simp, List.Pairwise.nil⟩)) (fun e a w' hq => by cases e <;> first | exact hq | exact hq.elim)))
  · simp [hn]; omega
  · obtain ⟨_, h2⟩ := lk_idx _ _ _ _ hv
    have hlt : t < args.length := by have := (List.getElem?_eq_some_iff.1 h2).1; simpa using this
    simp only [Nat.sub_zero] at h2
    rw [Array.getElem?_append_left (by simpa using hlt)]
    simpa using h2
theorem leaves_marks {fn : Func} {tmps : Array Value} {R : Ending → World → Prop} {B : Nat} : ∀ (Ds : List Nat) (w : World), Ds.Nodup → (∀ D ∈ Ds, B ≤ D ∧ w.heap[D]? = some (.deferred (some []))) → (∀ w', Below B w w' → (∀ b, b ∉ Ds → w'.heap[b]? = w.heap[b]?) → LeavesIn Fence.wide 0 P fn tmps R [] .returning w') →
    LeavesInM Fence.wide 0 P fn tmps R (Ds.map (fun D => { target := .collected D, args := #[] })) .returning w
  | [], w, _, _, h => h w (Below.refl _ _) (fun _ _ => rfl)
  | D :: r, w, hn, hD, h => by
    obtain ⟨h1, h2⟩ := hD D (List.mem_cons_self ..)
    have hlt := (Array.getElem?_eq_some_iff.1 h2).1
    have hb : Below B w (w.putObj D (.deferred none)) := (Below.refl B w).grown (grownBy_putObj' w D _) (by omega) (fun k e => by cases e; omega)
    refine ⟨by simp, .inl ⟨D, _, rfl, run_takeDeferred h2, leaves_marks r _ (List.nodup_cons.1 hn).2 (fun D' hD' => ?_) fun w' hw' hk' => h w' (hb.trans hw') (fun b hbn => ?_)⟩⟩
    · obtain ⟨h3, h4⟩ := hD D' (List.mem_cons_of_mem _ hD')
      refine ⟨h3, ?_⟩
      have hne : D' ≠ D := fun e => (List.nodup_cons.1 hn).1 (by rw [← e]; exact hD')
      rw [World.putObj_heap_other hne]
      exact h4
    · rw [hk' b (fun hm => hbn (List.mem_cons_of_mem _ hm)), World.putObj_heap_other (fun e => hbn (by rw [e]; exact List.mem_cons_self ..))]
end
end Go.Vcg
