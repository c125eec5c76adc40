/- From a run of the machine to the walk's goals. No statement of the seat is proved here. -/
import Derived.Test.YtimghlognaajkaaDoorRl
set_option maxRecDepth 20000
namespace Go.Rex
open Go.RowKit
open Go.Vcg (Keep St Ctx MOk GC Slots lk)
section
variable {P : Program}
def sof (n : Nat) : List (Nat × Value) → Sls
  | [] => ⟨n, .e⟩
  | (t, v) :: r => sset (sof n r) t v
theorem sof_n {n : Nat} : ∀ {lm : List (Nat × Value)}, (sof n lm).n = n
  | [] => rfl
  | (t, v) :: r => by
    have ih : (sof n r).n = n := sof_n
    unfold sof sset
    split
    rename_i n' t' hh
    rw [hh] at ih
    have ih : n' = n := ih
    split
    · split <;> exact ih
    · exact ih
theorem sget_sset {l : Sls} {k i : Nat} {v u : Value} (h : sget (sset l k v) i = some u) : (i = k ∧ u = v) ∨ sget l i = some u := by
  obtain ⟨n, t⟩ := l
  unfold sset at h
  simp only at h
  split at h
  · split at h
    · rename_i h5
      unfold sget at h ⊢
      split at h
      · rename_i hi
        by_cases hik : i = k
        · subst hik
          simp only [tget_set_same] at h
          cases h
          exact .inl ⟨rfl, rfl⟩
        · simp only at h
          rw [tget_set_other 9 t k i (some v) (blt_t h5) (blt_t hi) hik] at h
          exact .inr h
      · cases h
    · exact .inr h
  · exact .inr h
theorem sof_spec {n : Nat} : ∀ {lm : List (Nat × Value)} {i : Nat} {u : Value}, sget (sof n lm) i = some u → (i, u) ∈ lm
  | [], i, u, h => by
    unfold sof sget at h
    split at h
    · simp only [tget_e] at h; cases h
    · cases h
  | (t, v) :: r, i, u, h => by
    unfold sof at h
    rcases sget_sset h with ⟨rfl, rfl⟩ | h
    · simp
    · simp [sof_spec h]
def runG (P : Program) (N : Nat) (memo : Memo) (ts : List (Nat × List Value)) (n : Nat) (c : Code) (sl : Nat) (lm : List (Nat × Value)) (rs : List ResultVar) : Option Value := match ex P N memo n c (tabs ts) N (sof sl lm) with
  | some (e, h', _, l') => match isEnd e with
    | true => match resM P h' l' rs with
      | some us => match flat2 (one1 us) with
        | true => some (one1 us)
        | false => none
      | none => none
    | false => none
  | none => none
def okSlots (l : Slots) : List (Nat × Value) → Prop
  | [] => True
  | (t, v) :: r => lk l t = some v ∧ flat2 v = true ∧ okSlots l r
theorem okSlots_mem {l : Slots} : ∀ {lm : List (Nat × Value)} {t : Nat} {v : Value}, okSlots l lm → (t, v) ∈ lm → lk l t = some v ∧ flat2 v = true
  | (t', v') :: r, t, v, h, hm => by
    rcases List.mem_cons.1 hm with e | hm
    · cases e; exact ⟨h.1, h.2.1⟩
    · exact okSlots_mem h.2.2 hm
theorem gc_run (hm : P.follows .mixedOrders = true) {N : Nat} (hN : N ≤ 1048576) {memo : Memo} {ts : List (Nat × List Value)} {n sl : Nat} {c c' : Code} {fn : Func} {lm : List (Nat × Value)} {rs : List ResultVar} {v : Value} {w0 : World} {μ0 μ : Go.Vcg.Mem} {l : Slots} {L : List Go.Vcg.Bk}
    (hw : ∀ w, Keep [] w0 w → TabsOk N w ts ∧ MemoOk P w memo) (hc : c = c') (hrs : fn.results = rs.toArray) (hl : okSlots l lm) (e : runG P N memo ts n c' sl lm rs = some v) :
    GC P ⟨w0, μ0, [], sl⟩ c (bodyPost P fn (fun e w' => e = .returned v ∧ Below w0.heap.size w0 w')) μ l L := fun a w hs => by
  subst hc
  obtain ⟨ht, hme⟩ := hw w hs.keep
  obtain ⟨hr, hg⟩ := rel_start hN ht
  unfold runG at e
  split at e
  · rename_i ee h' nx' l' hex
    split at e
    · rename_i hend
      split at e
      · rename_i us hus
        split at e
        · rename_i hf
          cases e
          have r0 : R w N (ρN N) (tabs ts) N (sof sl lm) a w := ⟨hr, ⟨hg, by rw [sof_n]; exact hs.size, fun i u hu _ => by
            obtain ⟨h1, h2⟩ := okSlots_mem hl (sof_spec hu)
            exact ⟨u, hs.slots i u h1, rv_flat2 h2⟩⟩, hs.defers⟩
          refine ex_ok hm hme n c _ _ _ _ _ _ _ hex (ρN N) a w _ r0 fun ρ1 a1 w1 hev r1 => ?_
          obtain ⟨V, q1, q2⟩ := results_run (P := P) (fn := fn) r1.sl r1.rel.ok (vs := us) (by rw [hrs]; exact hus)
          have := rv_flat2_eq hf q1
          subst this
          have hk : Keep [] w0 w1 := by
            have k1 := hs.keep
            have k2 := r1.rel.keep
            exact ⟨k2.os.trans k1.os, k2.tape.trans k1.tape, k2.output.trans k1.output, Nat.le_trans k1.size k2.size, fun b hb hM => by rw [k2.block b (Nat.lt_of_lt_of_le hb k1.size) (by simp)]; exact k1.block b hb hM⟩
          cases ee with
          | normal => exact ⟨r1.df, _, q2, rfl, hk.below⟩
          | ret => exact ⟨r1.df, _, q2, rfl, hk.below⟩
          | exit i => cases hend
        · cases e
      · cases e
    · cases e
  · cases e
end
end Go.Rex
