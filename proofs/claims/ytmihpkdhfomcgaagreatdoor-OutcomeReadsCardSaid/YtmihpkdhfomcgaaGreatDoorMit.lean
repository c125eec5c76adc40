/- Rules for a range over a map of the call's own. No statement of the seat is proved here. -/
import Derived.Test.YtmihpkdhfomcgaaGreatDoorVm
import Derived.Test.YtmihpkdhfomcgaaGreatDoorSel
import Derived.Laws.IdiomRangeMap
set_option maxRecDepth 20000
namespace Go.Vcg
open Go.RowKit Go.MapKept
theorem run_nextM {P : Program} (w : World) (ty : TypeId) (r b since c0 ck : Nat) (seen : Array Nat) (es : List MapEntry)
    (hr : w.heap[r]? = some (.mapIter (some b) since seen c0)) (hb : w.heap[b]? = some (.map es.toArray ck)) (hold : ∀ x ∈ es, x.born < since) (hsc : since ≤ c0) :
    ∃ w1 : World, w1.heap = w.heap ∧ w1.os = w.os ∧ w1.tape = w.tape ∧ w1.output = w.output ∧
      (((leftOf es.toArray seen).size = 0 ∧ (Instr.next (.pointer (some ⟨r, 0, none⟩)) false ty).run P w = .ok (.tuple #[.bool false]) w1) ∨
       ∃ e ∈ (leftOf es.toArray seen).toList, (Instr.next (.pointer (some ⟨r, 0, none⟩)) false ty).run P w = .ok (.tuple #[.bool true, e.key, e.val]) { w1 with heap := w1.heap.setIfInBounds r (.mapIter (some b) since (seen.push e.born) ck) }) := by
  have ht := next_test_false seen es.toArray since c0 (by simpa using hold) hsc
  simp only [Instr.next, getObj, Sem.run_bind, Sem.run, hr, hb, Result.andThen, ht, Bool.false_eq_true, if_false]
  unfold leftOf
  have hmem : ∀ x ∈ (Array.filter (fun e => !seen.contains e.born) es.toArray).toList, x.born < since := fun x hx => hold x (by simp at hx; exact hx.1)
  generalize Array.filter (fun e => !seen.contains e.born) es.toArray = L at hmem ⊢
  have e1 : L.filter (fun x => decide (x.born < since)) = L := Array.filter_eq_self.2 (fun x hx => by simpa using hmem x (by simpa using hx))
  have e2 : L.filter (fun x => decide (x.born ≥ since)) = #[] := by
    rw [Array.filter_eq_empty_iff]
    intro x hx
    have := hmem x (by simpa using hx)
    simp
    omega
  simp only [e1, e2, Array.append_empty]
  by_cases h0 : L.size = 0
  · obtain rfl : L = #[] := Array.eq_empty_of_size_eq_zero h0
    exact ⟨w, rfl, rfl, rfl, rfl, .inl ⟨rfl, by simp [choose, Sem.run, Question.forced]⟩⟩
  · have hne : L.isEmpty = false := by simp [Array.isEmpty, h0]
    simp only [hne, Bool.false_eq_true, if_false, Array.empty_append, Array.size_map]
    obtain ⟨j, w1, hj, h1, h2, h3, h4, hrun⟩ : ∃ (j : Nat) (w1 : World), j < L.size ∧ w1.heap = w.heap ∧ w1.os = w.os ∧ w1.tape = w.tape ∧ w1.output = w.output ∧ (choose (Question.mapNext L.size)).run P w = .ok j w1 := by
      by_cases hf : L.size ≤ 1
      · exact ⟨0, w, by omega, rfl, rfl, rfl, rfl, by simp [choose, Sem.run, Question.forced, hf]⟩
      · refine ⟨w.tape w.drawn (Question.mapNext L.size) % L.size, w.drew, Nat.mod_lt _ (by omega), rfl, rfl, rfl, rfl, ?_⟩
        simp only [choose, Sem.run, Question.forced, decide_eq_true_eq, hf, if_false, Question.cut]
        rfl
    refine ⟨w1, h1, h2, h3, h4, .inr ⟨L[j], by simp, ?_⟩⟩
    have hset : ∀ o', (setObj r o').run P w1 = .ok () { w1 with heap := w1.heap.setIfInBounds r o' } := fun o' => by
      simp only [setObj, Sem.run, h1, hr]
    simp only [hrun, Array.getElem?_map, Array.getElem?_eq_getElem hj, Option.map_some, Sem.run_bind, hset, Result.andThen]
    rfl
section
variable {P : Program} {X : Ctx} {ops : Array Oper} {Q : Exit → Act → World → Prop} {rest : List Oper} {μ : Mem} {l : Slots} {L : List Bk} {a : Act} {w : World} {d : Nat}
variable {ty : TypeId} {pos : String} {af : Array Edge} {gd : Option (Nat × Bool)}
theorem g_range {t kt et : TypeId} {m : Operand} {b ck : Nat} {es : List MapEntry} (hn : Nat.blt d X.n = true) (hw : wants ops l ⟨some d, .range t m, ty, pos, af, gd⟩ = some true) (hm : ev l m = some (.map (some b)))
    (ht : P.underlying t = some (.map kt et)) (hu : InM L b ⟨b, es, ck⟩) (h : ∀ r, G P X ops Q rest μ ((d, .pointer (some ⟨r, 0, none⟩)) :: l) (.it r (some b) ck #[] ck :: L)) : G P X ops Q (⟨some d, .range t m, ty, pos, af, gd⟩ :: rest) μ l L :=
  g_wp hw fun a w hs => by
    obtain ⟨i, hi, _⟩ := hu
    have hb : w.heap[b]? = some (.map es.toArray ck) := hs.own _ (nthB_mem hi)
    have e1 := hs.eval hm
    have e : (execOp a.eval ⟨some d, .range t m, ty, pos, af, gd⟩).run P w = .ok (.value (.pointer (some ⟨w.heap.size, 0, none⟩))) (w.alloc (.mapIter (some b) ck #[] ck)) := by
      generalize a.eval = ρ at e1
      simp [execOp, e1, run_range_map w t kt et b es.toArray ck ht hb]
    unfold Oper.wp
    rw [e, Oper.upon_value]
    exact h _ _ _ ((hs.newB (.mapIter (some b) ck #[] ck) (.it w.heap.size (some b) ck #[] ck) rfl (heap_alloc_new w _)).put hn _)
theorem g_next {x : Operand} {r b since c0 ck : Nat} {seen : Array Nat} {es : List MapEntry} (i : Nat) (hn : Nat.blt d X.n = true) (hw : wants ops l ⟨some d, .next x false, ty, pos, af, gd⟩ = some true) (hx : ev l x = some (.pointer (some ⟨r, 0, none⟩)))
    (hi : nthB L i = some (.it r (some b) since seen c0)) (hu : InM L b ⟨b, es, ck⟩) (hold : ∀ x ∈ es, x.born < since) (hsc : since ≤ c0)
    (h0 : (leftOf es.toArray seen).size = 0 → G P X ops Q rest μ ((d, .tuple #[.bool false]) :: l) L)
    (h1 : ∀ e ∈ (leftOf es.toArray seen).toList, G P X ops Q rest μ ((d, .tuple #[.bool true, e.key, e.val]) :: l) (updB L i (.it r (some b) since (seen.push e.born) ck))) : G P X ops Q (⟨some d, .next x false, ty, pos, af, gd⟩ :: rest) μ l L :=
  g_wp hw fun a w hs => by
    obtain ⟨k, hk, _⟩ := hu
    have hb : w.heap[b]? = some (.map es.toArray ck) := hs.own _ (nthB_mem hk)
    have hr : w.heap[r]? = some (.mapIter (some b) since seen c0) := hs.own _ (nthB_mem hi)
    have e1 := hs.eval hx
    have hlt := (Array.getElem?_eq_some_iff.1 hr).1
    obtain ⟨w1, g1, g2, g3, g4, hor⟩ := run_nextM (P := P) w ty r b since c0 ck seen es hr hb hold hsc
    unfold Oper.wp
    rcases hor with ⟨hz, hrun⟩ | ⟨e, he, hrun⟩
    · have ex : (execOp a.eval ⟨some d, .next x false, ty, pos, af, gd⟩).run P w = .ok (.value (.tuple #[.bool false])) w1 := by
        generalize a.eval = ρ at e1
        simp [execOp, e1, hrun]
      rw [ex, Oper.upon_value]
      have hs2 := hs.upd hi (y := .it r (some b) since seen c0) (w' := w1) g2 g3 g4 (by rw [g1]; exact Nat.le_refl _) (fun c _ _ => by rw [g1]) (by show w1.heap[r]? = _; rw [g1]; exact hr) (fun c hc => .inl hc)
      rw [updB_id hi] at hs2
      exact h0 hz _ _ (hs2.put hn _)
    · have ex : (execOp a.eval ⟨some d, .next x false, ty, pos, af, gd⟩).run P w = .ok (.value (.tuple #[.bool true, e.key, e.val])) { w1 with heap := w1.heap.setIfInBounds r (.mapIter (some b) since (seen.push e.born) ck) } := by
        generalize a.eval = ρ at e1
        simp [execOp, e1, hrun]
      rw [ex, Oper.upon_value]
      have hs2 := hs.upd hi (y := .it r (some b) since (seen.push e.born) ck) (w' := { w1 with heap := w1.heap.setIfInBounds r (.mapIter (some b) since (seen.push e.born) ck) }) g2 g3 g4 (by simp [g1])
        (fun c hc hne => by
          have : r ≠ c := fun h => hne (by rw [h]; rfl)
          simp [Array.getElem?_setIfInBounds_ne this, g1])
        (by show (w1.heap.setIfInBounds r _)[r]? = _; rw [Array.getElem?_setIfInBounds_self_of_lt (by rw [g1]; exact hlt)])
        (fun c hc => .inl hc)
      exact h1 e he _ _ (hs2.put hn _)
end
end Go.Vcg
