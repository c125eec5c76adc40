/- A map of ints of the call's own: an entry that is there already is set again. -/
import Derived.Test.YtccbkihnedpjcaaDoorQal
set_option maxRecDepth 20000
set_option maxHeartbeats 2000000
namespace Go.Vcg
open Go.RowKit Go.MapKept
section
variable {P : Program} {X : Ctx} {ops : Array Oper} {Q : Exit → Act → World → Prop} {rest : List Oper} {μ : Mem} {l : Slots} {L : List Bk} {w : World}
variable {ty : TypeId} {pos : String} {af : Array Edge} {gd : Option (Nat × Bool)}
theorem run_mapUpdate_old {t kt et : TypeId} {dk : TypeDesc} {b ck i : Nat} {es : List MapEntry} {k v old : Value} (ht : P.underlying t = some (.map kt et)) (hk : P.underlying kt = some dk) (hkey : IsKey dk k)
    (hb : w.heap[b]? = some (.map es.toArray ck)) (hf : Instr.findNow dk k es 0 = some (some (i, old))) (he : (es[i]?).map (·.key) = some k) : (Instr.mapUpdate t (.map (some b)) k v).run P w = .ok () { w with heap := w.heap.setIfInBounds b (.map (es.modify i fun e => { e with key := k, val := v }).toArray ck) } := by
  have h1 : (((es.toArray[i]?).map (·.key)).getD k) = k := by
    rw [List.getElem?_toArray, he]; rfl
  simp [Instr.mapUpdate, run_underlying ht, MapKept.run_getObj_map hb, MapKept.run_checkKey hk hkey, MapKept.run_findKey hk hf, MapKept.run_setObj_map _ hb]
  rw [List.getElem?_toArray] at h1
  simp only [h1]
  rw [MapKept.run_keyThatStays hkey]
  simp [MapKept.run_setObj_map _ hb]
theorem g_mapput {t kt et : TypeId} {dk : TypeDesc} {m k x : Operand} {b ck i0 : Nat} {es : List MapEntry} {kv v old : Value} {F : Mp → List Bk} {op : Op} (hop : op = .insert t m k x ∨ op = .mapUpdate t m k x) (hw : wants ops l ⟨none, op, ty, pos, af, gd⟩ = some true) (hm : ev l m = some (.map (some b))) (hk : ev l k = some kv) (hx : ev l x = some v)
    (ht : P.underlying t = some (.map kt et)) (hkt : P.underlying kt = some dk) (hkey : IsKey dk kv) (hu : UpM L b ⟨b, es, ck⟩ F) (hf : Instr.findNow dk kv es 0 = some (some (i0, old))) (he : (es[i0]?).map (·.key) = some kv)
    (h : G P X ops Q rest μ l (F ⟨b, es.modify i0 fun e => { e with key := kv, val := v }, ck⟩)) : G P X ops Q (⟨none, op, ty, pos, af, gd⟩ :: rest) μ l L :=
  g_wp hw fun a w hs => by
    obtain ⟨i, hi, _, hF⟩ := hu
    have hb : w.heap[b]? = some (.map es.toArray ck) := hs.own _ (nthB_mem hi)
    have e1 := hs.eval hm; have e2 := hs.eval hk; have e3 := hs.eval hx
    have e : (execOp a.eval ⟨none, op, ty, pos, af, gd⟩).run P w = .ok .skip { w with heap := w.heap.setIfInBounds b (.map (es.modify i0 fun e => { e with key := kv, val := v }).toArray ck) } := by
      generalize a.eval = ρ at e1 e2 e3
      rcases hop with rfl | rfl <;> simp [execOp, e1, e2, e3, run_mapUpdate_old ht hkt hkey hb hf he]
    unfold Oper.wp
    rw [e, Oper.upon_skip]
    have hlt := (Array.getElem?_eq_some_iff.1 hb).1
    have := hs.upd hi (y := .mp ⟨b, es.modify i0 fun e => { e with key := kv, val := v }, ck⟩) (w' := { w with heap := w.heap.setIfInBounds b (.map (es.modify i0 fun e => { e with key := kv, val := v }).toArray ck) }) rfl rfl rfl (by simp)
      (fun c hc hne => by
        have : b ≠ c := fun e => hne (by rw [e]; rfl)
        simp [Array.getElem?_setIfInBounds_ne this])
      (by show (w.heap.setIfInBounds b _)[b]? = _; rw [Array.getElem?_setIfInBounds_self_of_lt hlt])
      (fun c hc => .inl hc)
    rw [hF] at h
    exact h _ _ this
end
end Go.Vcg
namespace Go.Proofs.YtccbkihnedpjcaaDoor
open Go.RowKit Go.Vcg Go.MapKept
def mkM : List (Int × Nat) → Nat → List MapEntry
  | [], _ => []
  | (f, n) :: r, j => MapEntry.mk (.int .i64 f) (.int .i64 (n : Int)) j :: mkM r (j + 1)
def idxM (f : Int) : List (Int × Nat) → Nat → Option (Nat × Nat)
  | [], _ => none
  | (g, n) :: r, i => if f = g then some (i, n) else idxM f r (i + 1)
def getM (f : Int) (M : List (Int × Nat)) : Nat := match idxM f M 0 with
  | some (_, n) => n
  | none => 0
def putM (f : Int) (n : Nat) : List (Int × Nat) → List (Int × Nat)
  | [] => [(f, n)]
  | (g, k) :: r => if f = g then (f, n) :: r else (g, k) :: putM f n r
theorem find_mkM (f : Int) : ∀ (M : List (Int × Nat)) (j i : Nat), Instr.findNow (.int .i64) (.int .i64 f) (mkM M j) i = some ((idxM f M i).map fun p => (p.1, .int .i64 (p.2 : Int)))
  | [], j, i => by simp [mkM, Instr.findNow, idxM]
  | (g, n) :: r, j, i => by
    have ih := find_mkM f r (j + 1) (i + 1)
    unfold mkM Instr.findNow idxM
    by_cases h : f = g
    · subst h
      simp [Instr.sameNow]
    · have hb : (f == g) = false := by simpa using h
      simp [Instr.sameNow, hb, h, ih]
theorem mkM_app : ∀ (M : List (Int × Nat)) (f : Int) (n j : Nat), mkM (M ++ [(f, n)]) j = mkM M j ++ [MapEntry.mk (.int .i64 f) (.int .i64 (n : Int)) (j + M.length)]
  | [], f, n, j => by simp [mkM]
  | (g, k) :: r, f, n, j => by
    have := mkM_app r f n (j + 1)
    simp only [List.cons_append, mkM, this, List.length_cons]
    rw [show j + 1 + r.length = j + (r.length + 1) by omega]
theorem idxM_ge {f : Int} : ∀ {M : List (Int × Nat)} {i p n : Nat}, idxM f M i = some (p, n) → i ≤ p
  | [], _, _, _, h => by cases h
  | (g, k) :: r, i, p, n, h => by
    unfold idxM at h
    split at h
    · cases h; exact Nat.le_refl _
    · have := idxM_ge h; omega
theorem mkM_put {f : Int} {n m : Nat} : ∀ {M : List (Int × Nat)} {j i p : Nat}, idxM f M i = some (p, m) → (mkM M j).modify (p - i) (fun e => { e with key := .int .i64 f, val := .int .i64 (n : Int) }) = mkM (putM f n M) j ∧ ((mkM M j)[p - i]?).map (·.key) = some (.int .i64 f)
  | [], _, _, _, h => by cases h
  | (g, k) :: r, j, i, p, h => by
    unfold idxM at h
    by_cases hg : f = g
    · rw [if_pos hg] at h
      cases h
      subst hg
      simp [mkM, putM]
    · rw [if_neg hg] at h
      have h1 := idxM_ge h
      obtain ⟨e1, e2⟩ := mkM_put (n := n) (j := j + 1) h
      obtain ⟨q, hq⟩ : ∃ q, p - i = q + 1 := ⟨p - i - 1, by omega⟩
      have hq2 : p - (i + 1) = q := by omega
      rw [hq2] at e1 e2
      rw [hq]
      simp only [mkM, putM, if_neg hg, List.modify_succ_cons, e1, List.getElem?_cons_succ, e2, and_self]
theorem putM_none {f : Int} {n : Nat} : ∀ {M : List (Int × Nat)} {i : Nat}, idxM f M i = none → putM f n M = M ++ [(f, n)]
  | [], _, _ => rfl
  | (g, k) :: r, i, h => by
    unfold idxM at h
    by_cases hg : f = g
    · rw [if_pos hg] at h; cases h
    · rw [if_neg hg] at h
      unfold putM
      rw [if_neg hg, putM_none h]
      rfl
theorem idxM_put (f g : Int) (n : Nat) : ∀ (M : List (Int × Nat)) (i : Nat), (idxM g (putM f n M) i).map (·.2) = if g = f then some n else (idxM g M i).map (·.2)
  | [], i => by
    unfold putM idxM
    by_cases h : g = f
    · simp [h]
    · simp [h, idxM]
  | (a, k) :: r, i => by
    have ih := idxM_put f g n r (i + 1)
    unfold putM
    by_cases h : f = a
    · rw [if_pos h]
      unfold idxM
      by_cases hg : g = f
      · rw [if_pos hg, if_pos hg]; rfl
      · rw [if_neg hg, if_neg hg, if_neg (fun e => hg (e.trans h.symm))]
    · rw [if_neg h]
      unfold idxM
      by_cases hg : g = a
      · rw [if_pos hg, if_pos hg, if_neg (fun e => h (e.symm.trans hg))]
      · rw [if_neg hg, if_neg hg, ih]
theorem getM_eq (f : Int) (M : List (Int × Nat)) : getM f M = ((idxM f M 0).map (·.2)).getD 0 := by
  unfold getM
  cases idxM f M 0 with
  | none => rfl
  | some p => rfl
theorem getM_put (f g : Int) (n : Nat) (M : List (Int × Nat)) : getM g (putM f n M) = if g = f then n else getM g M := by
  rw [getM_eq, getM_eq, idxM_put]
  split <;> rfl
end Go.Proofs.YtccbkihnedpjcaaDoor
namespace Go.Vcg
section
open Go.RowKit
section
variable {P : Program} {X : Ctx} {Q : Exit → Act → World → Prop} {μ : Mem} {l : Slots} {L L' : List Bk} {a : Act} {w : World}
theorem gc_perm {c : Code} (hp : L'.Perm L) (h : GC P X c Q μ l L') : GC P X c Q μ l L := fun a w hs => h a w (hs.perm hp)
theorem gq_perm {e : Exit} (hp : L'.Perm L) (h : GQ X Q e μ l L') : GQ X Q e μ l L := fun a w hs => h a w (hs.perm hp)
theorem perm_take {F R : List Bk} {k : Nat} {y : Bk} (h : R[k]? = some y) : (y :: (F ++ R.eraseIdx k)).Perm (F ++ R) := by
  obtain ⟨h1, h2⟩ := List.getElem?_eq_some_iff.1 h
  have e : R = R.take k ++ y :: R.drop (k + 1) := by
    rw [← h2]
    simp
  have e2 : R.eraseIdx k = R.take k ++ R.drop (k + 1) := List.eraseIdx_eq_take_drop_succ ..
  rw [e2]
  conv => rhs; rw [e]
  rw [← List.append_assoc, ← List.append_assoc]
  exact List.perm_middle.symm
theorem perm_put {F R : List Bk} {k : Nat} (y : Bk) (h : k < R.length) : (F ++ R.set k y).Perm (y :: (F ++ R.eraseIdx k)) := by
  have h2 := perm_take (F := F) (R := R.set k y) (k := k) (y := y) (by rw [List.getElem?_set_self h])
  rw [List.eraseIdx_set_eq] at h2
  exact h2.symm
end
end
section
open Go.RowKit
section
variable {P : Program} {X : Ctx} {ops : Array Oper} {Q : Exit → Act → World → Prop} {rest : List Oper} {μ : Mem} {l : Slots} {L : List Bk}
variable {ty : TypeId} {pos : String} {af : Array Edge} {gd : Option (Nat × Bool)} {ds : Option Nat}
theorem g_store_rowF {x q : Operand} {t : TypeId} {o1 o2 n g cap m e s : Nat} {xs : List Value} {v : Value} (i : Nat) (hw : wants ops l ⟨none, .store t q x, ty, pos, af, gd⟩ = some true) (hsz : sizeT P t = some n)
    (hi : nthB L i = some (.inr ⟨.slice (some ⟨g, 0, none⟩) m cap, e, s, m, xs⟩)) (hq : ev l q = some (.pointer (some ((Addr.add ⟨g, 0, none⟩ o1).add o2)))) (hx : ev l x = some v) (hlen : v.cells.toList.length = n) (hone : v.cells.toList.all (·.oneCell') = true)
    (hfit : o1 + o2 + n ≤ xs.length)
    (h : G P X ops Q rest μ l (updB L i (.inr ⟨.slice (some ⟨g, 0, none⟩) m cap, e, s, m, xs.take (o1 + o2) ++ v.cells.toList ++ xs.drop (o1 + o2 + n)⟩))) : G P X ops Q (⟨none, .store t q x, ty, pos, af, gd⟩ :: rest) μ l L :=
  g_store_row i hw hsz hi (hq.trans (by rw [add_add'])) hx hlen hone hfit h
theorem v_load_rowF1 {x : Operand} {v : Value} {t : TypeId} {g n cap o1 o2 : Nat} {e s : TypeId} {xs : List Value} (i : Nat) (hag : aggOf P t = some false)
    (hi : nthB L i = some (.inr ⟨.slice (some ⟨g, 0, none⟩) n cap, e, s, n, xs⟩)) (hx : ev l x = some (.pointer (some ((Addr.add ⟨g, 0, none⟩ o1).add o2)))) (hv : xs[o1 + o2]? = some v) : Val P μ l L ⟨ds, .load t x, ty, pos, af, gd⟩ v :=
  v_load_row i hag hi (hx.trans (by rw [add_add'])) hv
end
theorem gq_mpEq {X : Ctx} {Q : Exit → Act → World → Prop} {μ : Mem} {l : Slots} {L : List Bk} {ex : Exit} {b ck ck' : Nat} {es es' : List MapEntry} (i : Nat) (hi : nthB L i = some (.mp ⟨b, es, ck⟩)) (he : es = es') (hc : ck = ck') (h : GQ X Q ex μ l (updB L i (.mp ⟨b, es', ck'⟩))) : GQ X Q ex μ l L := by
  subst he hc
  rw [updB_id hi] at h
  exact h
theorem selR : ∀ L : List Bk, Sel L L
  | [] => .nil _
  | x :: r => sel_0 (BkLe.refl x) (selR r)
theorem splitB_app : ∀ a b : List Bk, splitB a.length (a ++ b) = some (a, b)
  | [], b => rfl
  | x :: a, b => by
    show (match splitB a.length (a ++ b) with | some (p, q) => some (x :: p, q) | none => none) = _
    rw [splitB_app a b]
end
end Go.Vcg
namespace Go.Proofs.YtccbkihnedpjcaaDoor
open Go.RowKit Go.Vcg Go.MapKept
theorem flat_get {α : Type} {enc : α → List Value} {s : Nat} (he : ∀ x, (enc x).length = s) : ∀ (xs : List α) (i k : Nat) (x : α), xs[i]? = some x → k < s → (xs.flatMap enc)[i * s + k]? = (enc x)[k]?
  | [], i, k, x, h, _ => by simp at h
  | y :: r, 0, k, x, h, hk => by
    cases h
    rw [List.flatMap_cons, List.getElem?_append_left (by rw [he]; omega)]
    congr 1
    omega
  | y :: r, i + 1, k, x, h, hk => by
    rw [List.flatMap_cons, List.getElem?_append_right (by rw [he, Nat.add_mul]; omega), he, ← flat_get he r i k x h hk]
    congr 1
    rw [Nat.add_mul]
    omega
theorem flat_set {α : Type} {enc : α → List Value} {s : Nat} (he : ∀ x, (enc x).length = s) {vs : List Value} {k n : Nat} (hk : k + n ≤ s) {y : α} : ∀ (xs : List α) (i : Nat) (x : α), xs[i]? = some x → enc y = (enc x).take k ++ vs ++ (enc x).drop (k + n) →
    (xs.flatMap enc).take (i * s + k) ++ vs ++ (xs.flatMap enc).drop (i * s + k + n) = (xs.set i y).flatMap enc
  | [], i, x, h, _ => by simp at h
  | z :: r, 0, x, h, hy => by
    cases h
    rw [List.set_cons_zero, List.flatMap_cons, List.flatMap_cons, Nat.zero_mul, Nat.zero_add, List.take_append_of_le_length (by rw [he]; omega), List.drop_append_of_le_length (by rw [he]; omega), hy]
    simp
  | z :: r, i + 1, x, h, hy => by
    have ih := flat_set he (vs := vs) hk r i x h hy
    rw [List.set_cons_succ, List.flatMap_cons, List.flatMap_cons, ← ih, Nat.add_mul, Nat.one_mul, show i * s + s + k = (enc z).length + (i * s + k) by rw [he]; omega, List.take_length_add_append, show (enc z).length + (i * s + k) + n = (enc z).length + (i * s + k + n) by omega, List.drop_length_add_append]
    simp
abbrev Fm := Value × List Bd
abbrev famR (f : Fm) : Bk := .inr ⟨f.1, 44, 4, f.2.length, f.2.flatMap encBd⟩
def famB (fs : List Fm) : List Bk := fs.map famR
theorem putM_len {f : Int} {n : Nat} : ∀ {M : List (Int × Nat)} {i : Nat} {p : Nat × Nat}, idxM f M i = some p → (putM f n M).length = M.length
  | [], _, _, h => by cases h
  | (g, k) :: r, i, p, h => by
    unfold idxM at h
    unfold putM
    by_cases hg : f = g
    · rw [if_pos hg]; rfl
    · rw [if_neg hg] at h ⊢
      simp only [List.length_cons, putM_len h]
theorem famB_get {fs : List Fm} {i : Nat} {f : Fm} (h : fs[i]? = some f) : (famB fs)[i]? = some (famR f) := by unfold famB; rw [List.getElem?_map, h]; rfl
theorem famB_set (fs : List Fm) (i : Nat) (f : Fm) : famB (fs.set i f) = (famB fs).set i (famR f) := by unfold famB; rw [List.map_set]
theorem famB_len (fs : List Fm) : (famB fs).length = fs.length := List.length_map ..
def FamP (ps : List Sc) (fs0 : List Fm) (i : Nat) (fs : List Fm) : Prop := fs.length = fs0.length ∧ ∀ (j : Nat) (f0 : Fm) (s : Sc), fs0[j]? = some f0 → ps[j]? = some s → fs[j]? = some (f0.1, if j < i then (oneS (ps.take j) s).names else f0.2)
theorem famP_next {ps : List Sc} {fs0 fs : List Fm} {i : Nat} {f0 : Fm} {s : Sc} (h : FamP ps fs0 i fs) (h0 : fs0[i]? = some f0) (hs : ps[i]? = some s) : FamP ps fs0 (i + 1) (fs.set i (f0.1, (oneS (ps.take i) s).names)) := by
  refine ⟨by rw [List.length_set]; exact h.1, fun j f t hf ht => ?_⟩
  have hlt : i < fs.length := by rw [h.1]; exact (List.getElem?_eq_some_iff.1 h0).1
  by_cases hj : i = j
  · subst hj
    rw [h0] at hf
    rw [hs] at ht
    cases hf
    cases ht
    rw [List.getElem?_set_self hlt, if_pos (by omega)]
  · rw [List.getElem?_set_ne hj, h.2 j f t hf ht]
    congr 2
    by_cases h2 : j < i
    · rw [if_pos h2, if_pos (by omega)]
    · rw [if_neg h2, if_neg (by omega)]
theorem num_set {l : List Bd} {k : Nat} {b : Bd} (h : l[k]? = some b) (c : Nat) : (numBd 0 c (l.take k) ++ l.drop k).set k { b with slot := if b.held = true then (heldN (l.take k) : Int) else ((c + (k - heldN (l.take k)) : Nat) : Int) } = numBd 0 c (l.take (k + 1)) ++ l.drop (k + 1) := by
  obtain ⟨h1, h2⟩ := List.getElem?_eq_some_iff.1 h
  have hlen : (numBd 0 c (l.take k)).length = k := by rw [numBd_length, List.length_take]; omega
  rw [numBd_succ h, List.set_append_right _ _ (by omega), hlen, Nat.sub_self, List.drop_eq_getElem_cons h1, List.set_cons_zero, List.append_assoc]
  rfl
theorem num_get {l : List Bd} {k : Nat} {b : Bd} (h : l[k]? = some b) (c : Nat) : (numBd 0 c (l.take k) ++ l.drop k)[k]? = some b := by
  have hlt := (List.getElem?_eq_some_iff.1 h).1
  have hlen : (numBd 0 c (l.take k)).length = k := by rw [numBd_length, List.length_take]; omega
  rw [List.getElem?_append_right (by omega), hlen, Nat.sub_self, List.getElem?_drop, Nat.add_zero]
  exact h
theorem num_len (l : List Bd) (k c : Nat) : (numBd 0 c (l.take k) ++ l.drop k).length = l.length := by
  rw [List.length_append, numBd_length, ← List.length_append, List.take_append_drop]
theorem look_mkM {P : Program} {et : TypeId} (hz : zeroT P et = some (.int .i64 0)) (f : Int) (M : List (Int × Nat)) : ∃ ok, lookV P et (Instr.findNow (.int .i64) (.int .i64 f) (mkM M 0) 0) = some (.int .i64 ((getM f M : Nat) : Int), ok) := by
  rw [find_mkM]
  unfold getM
  cases idxM f M 0 with
  | none => exact ⟨false, by simp [lookV, hz]⟩
  | some p => exact ⟨true, rfl⟩
def base (ps : List Sc) (i : Nat) (f : Int) : Nat := (if f = 0 then 1 else 0) + locN f (ps.take i)
attribute [local irreducible] famB base dP heldN locN placeF findF numBd numS oneS G GC GQ GA GAop Calls IntKind.wrap Int.decLt Int.decLe
theorem number_spec (ps : List Sc) (cs : List (Sc × Value)) (fs : List Fm) (g cap : Nat) (w : World) (μ : Mem) (hμ : MOk μ w) (hcs : scs cs = ps) (hlen : fs.length = cs.length) (hl : ps.length ≤ 200) (hnl : ∀ s ∈ ps, s.names.length ≤ 200)
    (hrel : ∀ (j : Nat) (c : Sc × Value) (f : Fm), cs[j]? = some c → fs[j]? = some f → c.2 = f.1 ∧ f.2 = c.1.names)
    (hO : Go.Vcg.Own μ (.inr ⟨.slice (some ⟨g, 0, none⟩) cs.length cap, 26, 5, cs.length, cs.flatMap encSc⟩ :: famB fs) w) :
    Calls Tryd.prog 19 #[.slice (some ⟨g, 0, none⟩) cs.length cap] w fun e w' => ∃ (v : Value) (μ' : Mem) (i : List Fm), e = .returned v ∧ BackM (idsOf (.inr ⟨.slice (some ⟨g, 0, none⟩) cs.length cap, 26, 5, cs.length, cs.flatMap encSc⟩ :: famB fs)) w w' μ (.inr ⟨.slice (some ⟨g, 0, none⟩) cs.length cap, 26, 5, cs.length, cs.flatMap encSc⟩ :: famB i) μ' ∧ (v = .slice (some ⟨g, 0, none⟩) cs.length cap ∧ FamP ps fs ps.length i) := by
  have hcnt := ids_count hO.diff
  have hcl : ps.length = cs.length := by rw [← hcs]; exact List.length_map ..
  have he5 : ∀ x : Sc × Value, (encSc x).length = 5 := fun _ => rfl
  have he4 : ∀ x : Bd, (encBd x).length = 4 := fun _ => rfl
  refine call_introM (args := [.slice (some ⟨g, 0, none⟩) cs.length cap]) Tryd.func19 rfl Tryd.ntmps19 (by simp) hμ hO ?_
  repeat' (first | (((with_reducible apply g_mapset); (first | exact .inl rfl | exact .inr rfl); (iterate 6 exact rfl); (first | exact trivial | exact rfl); (repeat first | with_reducible exact upm_hd | with_reducible apply upm_tl); exact rfl)) | (refine KV (b := by first | ((with_reducible apply v_lookup); exact rfl; exact rfl; exact rfl; exact rfl; (first | exact trivial | exact rfl); (repeat first | with_reducible exact inm_hd | with_reducible apply inm_tl); exact rfl) | ((with_reducible apply v_lookup2); exact rfl; exact rfl; exact rfl; exact rfl; (first | exact trivial | exact rfl); (repeat first | with_reducible exact inm_hd | with_reducible apply inm_tl); exact rfl)) (c := ?_)) | refine KK ?_ | ((with_reducible apply g_mkmap); exact rfl; exact rfl; intro b) | ((with_reducible apply g_mapset); (first | exact .inl rfl | exact .inr rfl); (iterate 6 exact rfl); (first | exact trivial | exact rfl); (repeat first | with_reducible exact upm_hd | with_reducible apply upm_tl); exact rfl) | (refine KB ?_ ?_ <;> intro hp) | refine KG ?_ | fail)
  obtain ⟨bm, hbm⟩ : ∃ y, y = b := ⟨_, rfl⟩
  rw [← hbm]
  clear hbm
  refine gc_loop (ι := Nat × List (Int × Nat) × List Fm) (fun q => q.1 ≤ cs.length ∧ (∀ f, getM f q.2.1 = base ps q.1 f) ∧ FamP ps fs q.1 q.2.2) (fun q => cs.length - q.1) (fun _ => μ) (fun q => [(12, .int .i64 (q.1 : Int)), (11, .int .i64 (cs.length : Int)), (3, .map (some bm)), (0, .slice (some ⟨g, 0, none⟩) cs.length cap)]) (fun q => .mp ⟨bm, mkM q.2.1 0, (q.2.1 : List (Int × Nat)).length⟩ :: .inr ⟨.slice (some ⟨g, 0, none⟩) cs.length cap, 26, 5, cs.length, cs.flatMap encSc⟩ :: famB q.2.2) (0, [(0, 1)], fs) ⟨Nat.zero_le _, fun f => by
      rw [base, List.take_zero, locN, getM_eq, idxM]
      by_cases h : f = 0
      · rw [if_pos h, if_pos h]; rfl
      · rw [if_neg h, if_neg h]; rfl, rfl, fun j f0 s h1 h2 => by rw [if_neg (by omega)]; exact h1⟩ (fun a w hs => hs.sel PU (sel_0 (BkLe.refl _) (sel_0 (BkLe.refl _) (selR _)))) ?_
  rintro ⟨i, M, fs2⟩ ⟨hi, hM, hF⟩
  dsimp only at hi hM hF ⊢
  by_cases hlt : i < cs.length
  · obtain ⟨cc, hc⟩ : ∃ cc, cs[i]? = some cc := ⟨_, List.getElem?_eq_getElem hlt⟩
    obtain ⟨f0, hf0⟩ : ∃ f0, fs[i]? = some f0 := ⟨_, List.getElem?_eq_getElem (by omega)⟩
    have hsi : ps[i]? = some cc.1 := by rw [← hcs]; exact scs_get hc
    obtain ⟨hr1, hr2⟩ := hrel i cc f0 hc hf0
    have hf2 := hF.2 i f0 cc.1 hf0 hsi
    rw [if_neg (by omega), hr2] at hf2
    obtain ⟨s, v⟩ := cc
    dsimp only at hr1 hr2 hsi hf2
    rw [← hr1] at hf2
    have hnm := hnl s (List.mem_of_getElem? hsi)
    refine gc_perm (perm_take (F := [_, _]) (famB_get hf2)) ?_
    obtain ⟨R, hR⟩ : ∃ R, (famB fs2).eraseIdx i = R := ⟨_, rfl⟩
    rw [hR]
    dsimp only [List.cons_append, List.nil_append, famR]
    refine gc_rowOk 0 rfl ?_
    rintro A4 c4 rfl hok4
    have hcv : (cs.flatMap encSc)[i * 5 + 4]? = some (.slice A4 s.names.length c4) := by rw [flat_get he5 cs i 4 _ hc (by omega)]; rfl
    have hcf : (cs.flatMap encSc)[i * 5 + 1]? = some (.int .i64 s.fn) := by rw [flat_get he5 cs i 1 _ hc (by omega)]; rfl
    repeat' (first | refine KO ?_ | (refine KV (b := by first | exact U1 i | ((with_reducible apply v_load_rowF1 2); exact rfl; exact rfl; exact rfl; exact hcv) | ((with_reducible apply v_lookup); exact rfl; exact rfl; exact rfl; exact rfl; (first | exact trivial | exact rfl); (repeat first | with_reducible exact inm_hd | with_reducible apply inm_tl); exact rfl) | ((with_reducible apply v_lookup2); exact rfl; exact rfl; exact rfl; exact rfl; (first | exact trivial | exact rfl); (repeat first | with_reducible exact inm_hd | with_reducible apply inm_tl); exact rfl)) (c := ?_)) | refine KI ?_ | ((with_reducible apply g_mkmap); exact rfl; exact rfl; intro b) | ((with_reducible apply g_mapset); (first | exact .inl rfl | exact .inr rfl); (iterate 6 exact rfl); (first | exact trivial | exact rfl); (repeat first | with_reducible exact upm_hd | with_reducible apply upm_tl); exact rfl) | (refine KB ?_ ?_ <;> intro hp) | refine KG ?_ | fail)
    all_goals try (exfalso; first | omega | contradiction)
    have hb0 : base ps i s.fn ≤ 40001 := by
      have := locN_take_le s.fn ps hnl i hl
      unfold base
      split <;> omega
    refine gc_loop (ι := Nat × Nat × List (Int × Nat) × List Bd) (fun q => q.1 ≤ s.names.length ∧ q.2.1 = heldN (s.names.take q.1) ∧ (∀ f, getM f q.2.2.1 = base ps i f + if f = s.fn then q.1 - q.2.1 else 0) ∧ q.2.2.2 = numBd 0 (base ps i s.fn) (s.names.take q.1) ++ s.names.drop q.1) (fun q => s.names.length - q.1) (fun _ => μ) (fun q => [(21, .int .i64 (q.1 : Int)), (20, .int .i64 (s.names.length : Int)), (5, .int .i64 (q.2.1 : Int)), (4, .int .i64 (i : Int)), (12, .int .i64 (i : Int)), (11, .int .i64 (cs.length : Int)), (3, .map (some bm)), (0, .slice (some ⟨g, 0, none⟩) cs.length cap)]) (fun q => .inr ⟨.slice A4 s.names.length c4, 44, 4, s.names.length, q.2.2.2.flatMap encBd⟩ :: .mp ⟨bm, mkM q.2.2.1 0, (q.2.2.1 : List (Int × Nat)).length⟩ :: .inr ⟨.slice (some ⟨g, 0, none⟩) cs.length cap, 26, 5, cs.length, cs.flatMap encSc⟩ :: R) (0, 0, M, s.names) ⟨Nat.zero_le _, (heldN_zero _).symm, fun f => by rw [hM f]; split <;> simp, by rw [numBd_zero, List.drop_zero, List.nil_append]⟩ (fun a w hs => hs.sel PU (selR _)) ?_
    rintro ⟨k, h, M2, bl⟩ ⟨hk, hh, hM2, hbl⟩
    dsimp only at hk hh hM2 hbl ⊢
    have hhk := heldN_take s.names k
    rw [← hh] at hhk
    have hbn : bl.length = s.names.length := by rw [hbl]; exact num_len _ _ _
    by_cases hkl : k < s.names.length
    · rcases hok4.form with ⟨-, h0, -⟩ | ⟨g4, rfl⟩
      · exfalso; omega
      obtain ⟨x, hx⟩ : ∃ x, s.names[k]? = some x := ⟨_, List.getElem?_eq_getElem hkl⟩
      have hset := num_set hx (base ps i s.fn)
      have hxk := num_get hx (base ps i s.fn)
      have hh2 := heldN_succ hx
      rw [← hbl, ← hh] at hset
      rw [← hbl] at hxk
      rw [← hh] at hh2
      obtain ⟨nm, kd, hd, sl⟩ := x
      dsimp only at hset hh2
      have hheld : (bl.flatMap encBd)[k * 4 + 2]? = some (.bool hd) := by rw [flat_get he4 bl k 2 _ hxk (by omega)]; rfl
      have hfl := flat4 bl
      cases hd
      · rw [if_neg (by simp)] at hset hh2
        obtain ⟨ok, hlook⟩ := look_mkM (P := Tryd.prog) (et := 3) (by kernel_rfl) s.fn M2
        have hgm := hM2 s.fn
        rw [if_pos rfl] at hgm
        rw [hgm] at hlook
        have hJ : ∀ f, getM f (putM s.fn (base ps i s.fn + (k - h) + 1) M2) = base ps i f + if f = s.fn then (k + 1) - h else 0 := fun f => by
          rw [getM_put]
          by_cases hf : f = s.fn
          · rw [if_pos hf, if_pos hf, hf]; omega
          · rw [if_neg hf, if_neg hf, hM2 f, if_neg hf]
        cases hix : idxM s.fn M2 0 with
        | some pm =>
          obtain ⟨p, m⟩ := pm
          have hm : m = base ps i s.fn + (k - h) := by rw [← hgm]; unfold getM; rw [hix]
          have hfd := find_mkM s.fn M2 0 0
          rw [hix] at hfd
          obtain ⟨e1, e2⟩ := mkM_put (n := base ps i s.fn + (k - h) + 1) (j := 0) hix
          rw [Nat.sub_zero] at e1 e2
          repeat' (first | (((with_reducible apply g_mapput); (first | exact .inl rfl | exact .inr rfl); (iterate 6 exact rfl); (first | exact trivial | exact rfl); (repeat first | with_reducible exact upm_hd | with_reducible apply upm_tl); exact hfd; exact e2)) | refine KO ?_ | ((with_reducible apply g_store_rowF 0); (iterate 7 exact rfl); (rw [hfl, hbn]; omega); (dsimp only [updB])) | (refine KV (b := by first | exact U1 k | ((with_reducible apply v_load_rowF1 2); exact rfl; exact rfl; exact rfl; exact hcv) | ((with_reducible apply v_load_rowF1 0); exact rfl; exact rfl; exact rfl; exact hheld) | ((with_reducible apply v_load_rowF1 2); exact rfl; exact rfl; exact rfl; exact hcf) | ((with_reducible apply v_lookup); exact rfl; exact rfl; exact rfl; exact rfl; (first | exact trivial | exact rfl); (repeat first | with_reducible exact inm_hd | with_reducible apply inm_tl); exact hlook) | ((with_reducible apply v_lookup); exact rfl; exact rfl; exact rfl; exact rfl; (first | exact trivial | exact rfl); (repeat first | with_reducible exact inm_hd | with_reducible apply inm_tl); exact rfl) | ((with_reducible apply v_lookup2); exact rfl; exact rfl; exact rfl; exact rfl; (first | exact trivial | exact rfl); (repeat first | with_reducible exact inm_hd | with_reducible apply inm_tl); exact rfl)) (c := ?_)) | refine KI ?_ | ((with_reducible apply g_mkmap); exact rfl; exact rfl; intro b) | ((with_reducible apply g_mapset); (first | exact .inl rfl | exact .inr rfl); (iterate 6 exact rfl); (first | exact trivial | exact rfl); (repeat first | with_reducible exact upm_hd | with_reducible apply upm_tl); exact rfl) | (refine KB ?_ ?_ <;> intro hp) | refine KG ?_ | fail)
          all_goals try (exfalso; first | omega | contradiction)
          all_goals refine gq_rowEq (n' := s.names.length) (xs' := (bl.set k ⟨nm, kd, false, ((base ps i s.fn + (k - h) : Nat) : Int)⟩).flatMap encBd) 0 rfl rfl (flat_set he4 (vs := [.int .i64 ((base ps i s.fn + (k - h) : Nat) : Int)]) (k := 3) (n := 1) (by omega) bl k _ hxk rfl) ?_
          all_goals refine gq_mpEq (es' := mkM (putM s.fn (base ps i s.fn + (k - h) + 1) M2) 0) (ck' := (putM s.fn (base ps i s.fn + (k - h) + 1) M2).length) 1 rfl e1 (putM_len hix).symm ?_
          all_goals exact gq_backS (k + 1, h, putM s.fn (base ps i s.fn + (k - h) + 1) M2, bl.set k ⟨nm, kd, false, ((base ps i s.fn + (k - h) : Nat) : Int)⟩) ⟨by dsimp only; omega, hh2.symm, hJ, hset⟩ (by dsimp only; omega) rfl PU (selR _)
        | none =>
          have hfd := find_mkM s.fn M2 0 0
          rw [hix] at hfd
          have hpn := putM_none (n := base ps i s.fn + (k - h) + 1) hix
          repeat' (first | (((with_reducible apply g_mapset); (first | exact .inl rfl | exact .inr rfl); (iterate 6 exact rfl); (first | exact trivial | exact rfl); (repeat first | with_reducible exact upm_hd | with_reducible apply upm_tl); exact hfd)) | refine KO ?_ | ((with_reducible apply g_store_rowF 0); (iterate 7 exact rfl); (rw [hfl, hbn]; omega); (dsimp only [updB])) | (refine KV (b := by first | exact U1 k | ((with_reducible apply v_load_rowF1 2); exact rfl; exact rfl; exact rfl; exact hcv) | ((with_reducible apply v_load_rowF1 0); exact rfl; exact rfl; exact rfl; exact hheld) | ((with_reducible apply v_load_rowF1 2); exact rfl; exact rfl; exact rfl; exact hcf) | ((with_reducible apply v_lookup); exact rfl; exact rfl; exact rfl; exact rfl; (first | exact trivial | exact rfl); (repeat first | with_reducible exact inm_hd | with_reducible apply inm_tl); exact hlook) | ((with_reducible apply v_lookup); exact rfl; exact rfl; exact rfl; exact rfl; (first | exact trivial | exact rfl); (repeat first | with_reducible exact inm_hd | with_reducible apply inm_tl); exact rfl) | ((with_reducible apply v_lookup2); exact rfl; exact rfl; exact rfl; exact rfl; (first | exact trivial | exact rfl); (repeat first | with_reducible exact inm_hd | with_reducible apply inm_tl); exact rfl)) (c := ?_)) | refine KI ?_ | ((with_reducible apply g_mkmap); exact rfl; exact rfl; intro b) | ((with_reducible apply g_mapset); (first | exact .inl rfl | exact .inr rfl); (iterate 6 exact rfl); (first | exact trivial | exact rfl); (repeat first | with_reducible exact upm_hd | with_reducible apply upm_tl); exact rfl) | (refine KB ?_ ?_ <;> intro hp) | refine KG ?_ | fail)
          all_goals try (exfalso; first | omega | contradiction)
          all_goals refine gq_rowEq (n' := s.names.length) (xs' := (bl.set k ⟨nm, kd, false, ((base ps i s.fn + (k - h) : Nat) : Int)⟩).flatMap encBd) 0 rfl rfl (flat_set he4 (vs := [.int .i64 ((base ps i s.fn + (k - h) : Nat) : Int)]) (k := 3) (n := 1) (by omega) bl k _ hxk rfl) ?_
          all_goals refine gq_mpEq (es' := mkM (putM s.fn (base ps i s.fn + (k - h) + 1) M2) 0) (ck' := (putM s.fn (base ps i s.fn + (k - h) + 1) M2).length) 1 rfl (by rw [hpn, mkM_app, Nat.zero_add]; rfl) (by rw [hpn]; simp) ?_
          all_goals exact gq_backS (k + 1, h, putM s.fn (base ps i s.fn + (k - h) + 1) M2, bl.set k ⟨nm, kd, false, ((base ps i s.fn + (k - h) : Nat) : Int)⟩) ⟨by dsimp only; omega, hh2.symm, hJ, hset⟩ (by dsimp only; omega) rfl PU (selR _)
      · rw [if_pos rfl] at hset hh2
        repeat' (first | refine KO ?_ | ((with_reducible apply g_store_rowF 0); (iterate 7 exact rfl); (rw [hfl, hbn]; omega); (dsimp only [updB])) | (refine KV (b := by first | exact U1 k | ((with_reducible apply v_load_rowF1 2); exact rfl; exact rfl; exact rfl; exact hcv) | ((with_reducible apply v_load_rowF1 0); exact rfl; exact rfl; exact rfl; exact hheld) | ((with_reducible apply v_load_rowF1 2); exact rfl; exact rfl; exact rfl; exact hcf) | ((with_reducible apply v_lookup); exact rfl; exact rfl; exact rfl; exact rfl; (first | exact trivial | exact rfl); (repeat first | with_reducible exact inm_hd | with_reducible apply inm_tl); exact rfl) | ((with_reducible apply v_lookup2); exact rfl; exact rfl; exact rfl; exact rfl; (first | exact trivial | exact rfl); (repeat first | with_reducible exact inm_hd | with_reducible apply inm_tl); exact rfl)) (c := ?_)) | refine KI ?_ | ((with_reducible apply g_mkmap); exact rfl; exact rfl; intro b) | ((with_reducible apply g_mapset); (first | exact .inl rfl | exact .inr rfl); (iterate 6 exact rfl); (first | exact trivial | exact rfl); (repeat first | with_reducible exact upm_hd | with_reducible apply upm_tl); exact rfl) | (refine KB ?_ ?_ <;> intro hp) | refine KG ?_ | fail)
        all_goals try (exfalso; first | omega | contradiction)
        all_goals refine gq_rowEq (n' := s.names.length) (xs' := (bl.set k ⟨nm, kd, true, (h : Int)⟩).flatMap encBd) 0 rfl rfl (flat_set he4 (vs := [.int .i64 (h : Int)]) (k := 3) (n := 1) (by omega) bl k _ hxk rfl) ?_
        all_goals exact gq_backS (k + 1, h + 1, M2, bl.set k ⟨nm, kd, true, (h : Int)⟩) ⟨by dsimp only; omega, hh2.symm, fun f => by rw [hM2 f, show k + 1 - (h + 1) = k - h by omega], hset⟩ (by dsimp only; omega) rfl PU (selR _)
    · repeat' (first | (refine KV (b := by first | ((with_reducible apply v_lookup); exact rfl; exact rfl; exact rfl; exact rfl; (first | exact trivial | exact rfl); (repeat first | with_reducible exact inm_hd | with_reducible apply inm_tl); exact rfl) | ((with_reducible apply v_lookup2); exact rfl; exact rfl; exact rfl; exact rfl; (first | exact trivial | exact rfl); (repeat first | with_reducible exact inm_hd | with_reducible apply inm_tl); exact rfl)) (c := ?_)) | refine KK ?_ | ((with_reducible apply g_mkmap); exact rfl; exact rfl; intro b) | ((with_reducible apply g_mapset); (first | exact .inl rfl | exact .inr rfl); (iterate 6 exact rfl); (first | exact trivial | exact rfl); (repeat first | with_reducible exact upm_hd | with_reducible apply upm_tl); exact rfl) | (refine KB ?_ ?_ <;> intro hp) | refine KG ?_ | fail)
      all_goals try (exfalso; first | omega | contradiction)
      have hk2 : k = s.names.length := by omega
      subst hk2
      rw [List.take_of_length_le (Nat.le_refl _)] at hh hbl
      rw [List.drop_of_length_le (Nat.le_refl _), List.append_nil] at hbl
      have hone : (oneS (ps.take i) s).names = bl := by rw [oneS_eq, hbl, base]
      have hFn := famP_next hF hf0 hsi
      rw [hone, ← hr1] at hFn
      have hM3 : ∀ f, getM f M2 = base ps (i + 1) f := fun f => by
        rw [hM2 f, base, base, locN_succ hsi, hh]
        by_cases hf : f = s.fn
        · rw [if_pos hf, if_pos hf.symm]; omega
        · simp only [if_neg hf, if_neg (fun e : s.fn = f => hf e.symm), Nat.add_zero]
      refine gq_rowEq (n' := bl.length) (xs' := bl.flatMap encBd) 0 rfl hbn.symm rfl ?_
      refine gq_perm (L' := .mp ⟨bm, mkM M2 0, (M2 : List (Int × Nat)).length⟩ :: .inr ⟨.slice (some ⟨g, 0, none⟩) cs.length cap, 26, 5, cs.length, cs.flatMap encSc⟩ :: famB (fs2.set i (.slice A4 s.names.length c4, bl))) (by rw [famB_set, ← hR]; exact perm_put (F := [_, _]) _ (by rw [famB_len, hF.1]; omega)) ?_
      exact gq_backS (i + 1, M2, fs2.set i (.slice A4 s.names.length c4, bl)) ⟨by dsimp only; omega, hM3, hFn⟩ (by dsimp only; omega) rfl PU (selR _)
  · have hi2 : i = ps.length := by omega
    rw [hi2] at hF
    repeat' (first | (refine KV (b := by first | ((with_reducible apply v_lookup); exact rfl; exact rfl; exact rfl; exact rfl; (first | exact trivial | exact rfl); (repeat first | with_reducible exact inm_hd | with_reducible apply inm_tl); exact rfl) | ((with_reducible apply v_lookup2); exact rfl; exact rfl; exact rfl; exact rfl; (first | exact trivial | exact rfl); (repeat first | with_reducible exact inm_hd | with_reducible apply inm_tl); exact rfl)) (c := ?_)) | refine KK ?_ | ((with_reducible apply g_mkmap); exact rfl; exact rfl; intro b) | ((with_reducible apply g_mapset); (first | exact .inl rfl | exact .inr rfl); (iterate 6 exact rfl); (first | exact trivial | exact rfl); (repeat first | with_reducible exact upm_hd | with_reducible apply upm_tl); exact rfl) | (refine KB ?_ ?_ <;> intro hp) | refine KG ?_ | fail)
    all_goals try (exfalso; first | omega | contradiction)
    refine gq_perm (L' := (.inr ⟨.slice (some ⟨g, 0, none⟩) cs.length cap, 26, 5, cs.length, cs.flatMap encSc⟩ :: famB fs2) ++ [.mp ⟨bm, mkM M 0, (M : List (Int × Nat)).length⟩]) (List.perm_append_singleton _ _) ?_
    exact ret_bor (Ls := fun i : List Fm => .inr ⟨.slice (some ⟨g, 0, none⟩) cs.length cap, 26, 5, cs.length, cs.flatMap encSc⟩ :: famB i) (Post := fun _ v i => v = .slice (some ⟨g, 0, none⟩) cs.length cap ∧ FamP ps fs ps.length i) (.inr ⟨.slice (some ⟨g, 0, none⟩) cs.length cap, 26, 5, cs.length, cs.flatMap encSc⟩ :: famB fs2).length fs2 hcnt rfl (rv_tmp rfl) (splitB_app _ _) rfl (fun _ _ => ⟨rfl, hF⟩)
end Go.Proofs.YtccbkihnedpjcaaDoor
namespace Go.Vcg
open Go.RowKit
theorem Bk.sh_mono : ∀ {x : Bk} {μ μ' : Mem}, Bk.sh x μ → MLe μ μ' → Bk.sh x μ'
  | .inl _, _, _, ⟨arr, e, h⟩, hl => ⟨arr, hl _ _ e, h⟩
  | .inr _, _, _, ⟨h, k⟩, hl => ⟨h, k.imp (fun h => h) fun ⟨g, cap, cur, e, e2, h3⟩ => ⟨g, cap, cur, e, hl _ _ e2, h3⟩⟩
  | .mp _, _, _, h, hl => hl _ _ h
  | .it .., _, _, h, hl => hl _ _ h
theorem gc_shareAll {P : Program} {X : Ctx} {Q : Exit → Act → World → Prop} {l : Slots} {c : Code} : ∀ {L : List Bk} {μ : Mem}, (∀ μ', MLe μ μ' → (∀ x ∈ L, Bk.sh x μ') → GC P X c Q μ' l []) → GC P X c Q μ l L
  | [], μ, h => h μ (MLe.refl _) (fun x hx => by cases hx)
  | y :: L, μ, h => gc_share_0 rfl fun μ1 h1 hy => gc_shareAll fun μ2 h2 hL => h μ2 (h1.trans h2) fun x hx => by
      rcases List.mem_cons.1 hx with rfl | hx
      · exact Bk.sh_mono hy h2
      · exact hL x hx
theorem sel_skip {L' L : List Bk} (y : Bk) (h : Sel L' L) : Sel L' (y :: L) := by
  induction h with
  | nil L => exact .nil _
  | cons h hr ih => exact Sel.cons (a := y :: _) h ih
theorem splitB_all (L : List Bk) : splitB L.length L = some (L, []) := by
  have := splitB_app L []
  rwa [List.append_nil] at this
end Go.Vcg
namespace Go.Proofs.YtccbkihnedpjcaaDoor
open Go.RowKit Go.Vcg
theorem numS_get : ∀ (l pre : List Sc) (j : Nat), (numS pre l)[j]? = (l[j]?).map (oneS (pre ++ l.take j))
  | [], _, _ => by simp [numS]
  | s :: r, pre, 0 => by simp [numS]
  | s :: r, pre, j + 1 => by
    rw [numS, List.getElem?_cons_succ, List.getElem?_cons_succ, numS_get r (pre ++ [s]) j]
    simp
theorem numS_iff (l : List Sc) : l = numS [] l ↔ ∀ (j : Nat) (s : Sc), l[j]? = some s → (oneS (l.take j) s).names = s.names := by
  constructor
  · intro h j s hs
    have h1 := numS_get l [] j
    rw [← h, hs, List.nil_append] at h1
    have h2 : s = oneS (l.take j) s := Option.some.inj h1
    rw [← h2]
  · intro h
    apply List.ext_getElem?
    intro j
    rw [numS_get, List.nil_append]
    cases hs : l[j]? with
    | none => rfl
    | some s =>
      have h1 := h j s hs
      obtain ⟨a, b, c, d, e⟩ := s
      show some _ = some (oneS (l.take j) _)
      rw [oneS_eq]
      rw [oneS_eq] at h1
      dsimp only at h1
      rw [h1]
theorem famB_nil : famB [] = [] := rfl
theorem famB_app (fs : List Fm) (f : Fm) : famB (fs ++ [f]) = famB fs ++ [famR f] := by unfold famB; rw [List.map_append]; rfl
theorem famB_mem {fs : List Fm} {f : Fm} (h : f ∈ fs) : famR f ∈ famB fs := by unfold famB; exact List.mem_map_of_mem h
theorem famR_bd {f : Fm} {μ : Mem} (h : Bk.sh (famR f) μ) (hl : f.2.length ≤ 200) : BdV μ f.2 f.1 := by
  obtain ⟨v, bl⟩ := f
  obtain ⟨A, c, e, hS⟩ := row_sl (enc := encBd) (xs := bl) h rfl (by simp) rfl
  dsimp only at e
  subst e
  exact ⟨A, c, rfl, hS, hl, Bk.cap h⟩
attribute [local irreducible] famB base dP heldN locN placeF findF numBd numS oneS G GC GQ GA GAop Calls IntKind.wrap Int.decLt Int.decLe
theorem pright_spec (w : World) (μ : Mem) (hμ : MOk μ w) (ps : List (Sc × Value)) (A : Option Addr) (c : Nat) (hps : ScR μ A ps) : Calls Tryd.prog 9 #[.slice A ps.length c] w fun e w' => e = .returned (.bool (dP (RightP (scs ps)))) ∧ Below w.heap.size w w' := by
  have hps0 := hps
  obtain ⟨hS, hl, hall⟩ := hps
  have hsl : (scs ps).length = ps.length := List.length_map ..
  generalize hR : dP (RightP (scs ps)) = R
  refine call_intro (args := [.slice A ps.length c]) Tryd.func9 rfl Tryd.ntmps9 (by simp) hμ ?_
  by_cases h0 : 0 < ps.length
  rotate_left
  · have hF : false = R := by
      rw [← hR]; symm
      exact dP_f (fun h => by
        obtain ⟨⟨s, hs, -⟩, -⟩ := h
        have := (List.getElem?_eq_some_iff.1 hs).1
        omega)
    repeat' (first | refine KK ?_ | refine NB fun b => ?_ | (refine KB ?_ ?_ <;> intro hp) | refine KG ?_ | fail)
    all_goals first | (exfalso; first | omega | contradiction) | exact ret_s rfl rfl (congrArg _ hF)
  obtain ⟨ad, x0, rfl, hx0, hm0⟩ := hS.get h0
  have hs0 := scs_get hx0
  obtain ⟨x0, xv0⟩ := x0
  have hmx0 : MCells μ (ad.add (0 * 5)) [.int .i64 x0.up, .int .i64 x0.fn, .int .i64 x0.kind, .int .i64 x0.at', xv0] := hm0
  have hxv0 := (hall _ (List.mem_of_getElem? hx0)).one
  dsimp only at hs0 hxv0
  by_cases hhd : x0.kind = 0 ∧ x0.up = -1 ∧ x0.fn = 0
  rotate_left
  · have hF : false = R := by
      rw [← hR]; symm
      exact dP_f (fun h => by
        obtain ⟨⟨s, hs, h1⟩, -⟩ := h
        rw [hs0] at hs
        cases hs
        exact hhd h1)
    repeat' (first | refine KO ?_ | (refine KV (b := by first | exact U1 0 | exact U4 hmx0) (c := ?_)) | refine KI ?_ | refine NB fun b => ?_ | (refine KB ?_ ?_ <;> intro hp) | refine KG ?_ | fail)
    all_goals first | exact ret_s rfl rfl (congrArg _ hF) | (exfalso; first | omega | contradiction) | skip
  obtain ⟨hk0, hu0, hf0⟩ := hhd
  repeat' (first | refine KO ?_ | (refine KV (b := by first | exact U1 0 | exact U4 hmx0) (c := ?_)) | refine KI ?_ | refine NB fun b => ?_ | (refine KB ?_ ?_ <;> intro hp) | refine KG ?_ | fail)
  all_goals try (exfalso; first | omega | contradiction)
  refine gc_nilR 26 5 ?_
  refine gc_loop (ι := Nat × List (Sc × Value) × List Fm × Value) (fun q => q.1 ≤ ps.length ∧ scs q.2.1 = (scs ps).take q.1 ∧ q.2.1.length = q.1 ∧ q.2.2.1.length = q.1 ∧ (∀ (j : Nat) (c : Sc × Value) (f : Fm), q.2.1[j]? = some c → q.2.2.1[j]? = some f → c.2 = f.1 ∧ f.2 = c.1.names) ∧ (∀ (j : Nat) (s : Sc), j < q.1 → (scs ps)[j]? = some s → ScOk j s ∧ NmOk s.names) ∧ (∀ u ∈ q.2.1.flatMap encSc, u.oneCell' = true)) (fun q => ps.length - q.1) (fun _ => μ) (fun q => [(34, .int .i64 (q.1 : Int)), (33, .int .i64 (ps.length : Int)), (32, .slice (some ad) ps.length c), (3, q.2.2.2), (0, .slice (some ad) ps.length c)]) (fun q => .inr ⟨q.2.2.2, 26, 5, q.2.1.length, q.2.1.flatMap encSc⟩ :: famB q.2.2.1) (0, [], [], .slice none 0 0) ⟨Nat.zero_le _, rfl, rfl, rfl, fun j c f h => by simp at h, fun j s h => absurd h (by omega), by simp⟩ (fun a w hs => by
      show St _ _ _ (_ :: famB []) _ _
      rw [famB_nil]
      exact hs.sel PU (selR _)) ?_
  rintro ⟨i, cs, fs, vo⟩ ⟨hi, hcs, hcl, hfl, hrel, hok, hones⟩
  dsimp only at hi hcs hcl hfl hrel hok hones ⊢
  refine gc_rowOk 0 rfl ?_
  rintro A1 c1 rfl hok1
  by_cases hlt : i < ps.length
  · obtain ⟨ad2, x, e2, hx, hm⟩ := hS.get hlt
    cases e2
    have hsx := scs_get hx
    obtain ⟨x, xv⟩ := x
    have hbv := hall _ (List.mem_of_getElem? hx)
    obtain ⟨A3, c3, hxv, hB, hbl⟩ := hall _ (List.mem_of_getElem? hx)
    dsimp only at hsx hxv hB hbl hbv
    subst hxv
    have hmx : MCells μ (ad.add (i * 5)) [.int .i64 x.up, .int .i64 x.fn, .int .i64 x.kind, .int .i64 x.at', .slice A3 x.names.length c3] := hm
    have hnmd := fun (w : World) (μc : Mem) (hw : MOk μc w) (hle : MLe μ μc) => named_spec w μc hw x _ (hbv.mono hle)
    by_cases hgood : ScOk i x ∧ NmOk x.names
    rotate_left
    · have hF : false = R := by
        rw [← hR]; symm
        exact dP_f (fun h => hgood (h.2.1 i x hsx))
      have hcase : ¬ (0 ≤ x.at' ∧ (0 < i → 0 ≤ x.up ∧ x.up < i ∧ 1 ≤ x.kind ∧ x.kind ≤ 5 ∧ 0 ≤ x.fn)) ∨ dP (NmOk x.names) = false := by
        by_cases h1 : ScOk i x
        · exact .inr (dP_f fun h2 => hgood ⟨h1, h2⟩)
        · exact .inl h1
      generalize dP (NmOk x.names) = d at hnmd hcase
      repeat' (first | ((with_reducible show GC _ _ (Code.seq (Code.region 9 _ _) _) _ _ _ _); (apply gc_stop)) | refine KO ?_ | ((with_reducible apply F1 17); exact rfl; exact EN; exact fun w μc hw hse => hnmd w μc hw hse.le) | (refine KV (b := by first | exact U1 i | exact U4 hmx) (c := ?_)) | refine KI ?_ | refine NB fun b => ?_ | (refine KB ?_ ?_ <;> intro hp) | refine KG ?_ | fail)
      all_goals first | exact ret_s rfl rfl (congrArg _ hF) | (exfalso; first | omega | contradiction) | (exfalso; rcases hcase with h | h <;> first | omega | contradiction | simp_all)
    obtain ⟨hsc, hnm⟩ := hgood
    rw [dP_t hnm] at hnmd
    have hsc2 := hsc
    unfold ScOk at hsc2
    repeat' (first | ((with_reducible show GC _ _ (Code.seq (Code.region 9 _ _) _) _ _ _ _); (apply gc_stop)) | refine KO ?_ | ((with_reducible apply F1 17); exact rfl; exact EN; exact fun w μc hw hse => hnmd w μc hw hse.le) | (refine KV (b := by first | exact U1 i | exact U4 hmx) (c := ?_)) | refine KI ?_ | refine NB fun b => ?_ | (refine KB ?_ ?_ <;> intro hp) | refine KG ?_ | fail)
    all_goals try (exfalso; first | omega | contradiction)
    all_goals refine gcs ?_
    all_goals repeat' (first | refine KO ?_ | ((with_reducible apply F3 18); exact rfl; exact EN; (exact fun w μc hw hse => clone_spec w μc hw _ _ (hbv.mono hse.le)); intro v4; (with_reducible apply g_rowOk 0); exact rfl; rintro A4 c4 rfl hok4) | (first | ((with_reducible apply g_ap); exact rfl; exact rfl; exact rfl; (repeat first | with_reducible exact rowup_hd | with_reducible apply rowup_tl); (iterate 6 exact rfl); (first | ((with_reducible apply src_in); exact rfl; (repeat first | with_reducible exact inb_hd | with_reducible apply inb_tl); exact rfl)); (first | exact rfl | omega | simp); (first | assumption | (exact ones_mem (by (repeat first | with_reducible exact ones_nil | ((with_reducible apply ones_cons); (first | exact rfl | assumption))))) | simp [Value.oneCell']); omega; omega; intro v) | ((with_reducible apply g_append0); (iterate 9 exact rfl); (first | ((with_reducible apply src_in); exact rfl; (repeat first | with_reducible exact inb_hd | with_reducible apply inb_tl); exact rfl)); (first | exact rfl | omega | simp); (first | assumption | (exact ones_mem (by (repeat first | with_reducible exact ones_nil | ((with_reducible apply ones_cons); (first | exact rfl | assumption))))) | simp [Value.oneCell']); omega; omega; intro v)) | refine KI ?_ | refine NB fun b => ?_ | (refine KB ?_ ?_ <;> intro hp) | refine KG ?_ | fail)
    all_goals refine gq_rowEq (n' := (cs ++ [(x, Value.slice A4 x.names.length c4)]).length) (xs' := (cs ++ [(x, Value.slice A4 x.names.length c4)]).flatMap encSc) 3 rfl (by simp) (by simp) ?_
    all_goals dsimp only [updB]
    all_goals refine gq_sel (l' := [(34, .int .i64 ((i : Int) + 1)), (33, .int .i64 (ps.length : Int)), (32, .slice (some ad) ps.length c), (3, v), (0, .slice (some ad) ps.length c)]) (L' := .inr ⟨.slice A4 x.names.length c4, 44, 4, x.names.length, x.names.flatMap encBd⟩ :: .inr ⟨v, 26, 5, (cs ++ [(x, Value.slice A4 x.names.length c4)]).length, (cs ++ [(x, Value.slice A4 x.names.length c4)]).flatMap encSc⟩ :: famB fs) PU (sel_1 (BkLe.refl _) (sel_2 (BkLe.refl _) (sel_skip _ (sel_skip _ (selR _))))) ?_
    all_goals refine gq_perm (L' := .inr ⟨v, 26, 5, (cs ++ [(x, Value.slice A4 x.names.length c4)]).length, (cs ++ [(x, Value.slice A4 x.names.length c4)]).flatMap encSc⟩ :: famB (fs ++ [(.slice A4 x.names.length c4, x.names)])) (by rw [famB_app]; exact (List.perm_append_singleton _ (_ :: famB fs))) ?_
    all_goals exact gq_backS (i + 1, cs ++ [(x, .slice A4 x.names.length c4)], fs ++ [(.slice A4 x.names.length c4, x.names)], v) ⟨by dsimp only; omega, by rw [List.take_add_one, hsx, ← hcs]; simp, by simp [hcl], by simp [hfl], fun j c f h1 h2 => by
        dsimp only at h1 h2
        rw [List.getElem?_append] at h1 h2
        by_cases hj : j < i
        · rw [if_pos (by omega)] at h1 h2
          exact hrel j c f h1 h2
        · rw [if_neg (by omega)] at h1 h2
          rw [hcl] at h1
          rw [hfl] at h2
          cases hji : j - i with
          | zero => rw [hji] at h1 h2; cases h1; cases h2; exact ⟨rfl, rfl⟩
          | succ m => rw [hji] at h1; simp at h1, fun j s hj hs => by
        dsimp only at hj
        by_cases h : j < i
        · exact hok j s h hs
        · obtain rfl : j = i := by omega
          rw [hsx] at hs
          cases hs
          exact ⟨hsc, hnm⟩, fun u hu => by
        dsimp only at hu
        rw [List.flatMap_append] at hu
        rcases List.mem_append.1 hu with hu | hu
        · exact hones u hu
        · simp at hu
          rcases hu with rfl | rfl | rfl | rfl | rfl <;> rfl⟩ (by dsimp only; omega) rfl PU (selR _)
  · have hil : i = ps.length := by omega
    subst hil
    obtain ⟨g, rfl⟩ : ∃ g, A1 = some ⟨g, 0, none⟩ := by
      rcases hok1.form with ⟨-, h, -⟩ | h
      · exfalso; omega
      · exact h
    have hcs2 : scs cs = scs ps := by rw [hcs, List.take_of_length_le (by omega)]
    have hnl : ∀ s ∈ scs ps, s.names.length ≤ 200 := fun s hs => by
      obtain ⟨p, hp, rfl⟩ := List.mem_map.1 hs
      obtain ⟨_, _, _, _, h, _⟩ := hall p hp
      exact h
    repeat' (first | refine KO ?_ | (refine CF 19 ?_; (with_reducible apply g_enter_bor (LB := .inr ⟨.slice (some ⟨g, 0, none⟩) cs.length c1, 26, 5, cs.length, cs.flatMap encSc⟩ :: famB fs) (Lr := []) (Ls := fun i : List Fm => .inr ⟨.slice (some ⟨g, 0, none⟩) cs.length c1, 26, 5, cs.length, cs.flatMap encSc⟩ :: famB i) (Post := fun _ v i => v = .slice (some ⟨g, 0, none⟩) cs.length c1 ∧ FamP (scs ps) fs (scs ps).length i) (.inr ⟨.slice (some ⟨g, 0, none⟩) cs.length c1, 26, 5, cs.length, cs.flatMap encSc⟩ :: famB fs : List Bk).length); exact rfl; exact rfl; exact rfl; ((with_reducible apply e_call1); kernel_rfl; exact rfl); exact splitB_all _; (exact fun w5 hw5 hO5 => number_spec (scs ps) cs fs g c1 w5 _ hw5 hcs2 (by omega) (by omega) hnl hrel hO5); (rintro v5 μ5 fs5 hle5 ⟨rfl, hF5⟩); (rw [List.append_nil])) | refine KI ?_ | refine NB fun b => ?_ | (refine KB ?_ ?_ <;> intro hp) | refine KG ?_ | fail)
    all_goals try (exfalso; first | omega | contradiction)
    refine gc_shareAll fun μ3 hle3 hL3 => ?_
    have hS3 := sl_of_row (enc := encSc) (hL3 _ (List.mem_cons_self ..)) rfl (fun _ _ => rfl) rfl
    have hle03 : MLe μ μ3 := hle5.trans hle3
    have hfam : ∀ (j : Nat) (y : Sc × Value), cs[j]? = some y → BdV μ3 (oneS ((scs ps).take j) y.1).names y.2 := fun j y hy => by
      have hj := (List.getElem?_eq_some_iff.1 hy).1
      obtain ⟨f0, hf0⟩ : ∃ f0, fs[j]? = some f0 := ⟨_, List.getElem?_eq_getElem (by omega)⟩
      have hy2 : (scs ps)[j]? = some y.1 := by rw [← hcs2]; exact scs_get hy
      have h5 := hF5.2 j f0 y.1 hf0 hy2
      rw [if_pos (by omega), ← (hrel j y f0 hy hf0).1] at h5
      refine famR_bd (hL3 _ (List.mem_cons_of_mem _ (famB_mem (List.mem_of_getElem? h5)))) ?_
      show (oneS ((scs ps).take j) y.1).names.length ≤ 200
      rw [oneS_eq, numBd_length]
      exact hnl _ (List.mem_of_getElem? hy2)
    refine gc_loop (ι := Nat) (fun j => j ≤ cs.length ∧ ∀ (k : Nat) (s : Sc), k < j → (scs ps)[k]? = some s → (oneS ((scs ps).take k) s).names = s.names) (fun j => cs.length - j) (fun _ => μ3) (fun j => [(89, .int .i64 (j : Int)), (88, .int .i64 (cs.length : Int)), (87, .slice (some ⟨g, 0, none⟩) cs.length c1), (0, .slice (some ad) ps.length c)]) (fun _ => []) 0 ⟨Nat.zero_le _, fun k s h => absurd h (by omega)⟩ (fun a w hs => J5 hs) ?_
    rintro j ⟨hj, hsame⟩
    by_cases hjl : j < cs.length
    · obtain ⟨adz, z, e3, hz, hmz⟩ := hS3.get hjl
      cases e3
      obtain ⟨ady, y, e4, hy, hmy⟩ := hS.get (show j < ps.length by omega)
      cases e4
      have hz1 := scs_get hz
      have hy1 := scs_get hy
      rw [hcs2, hy1] at hz1
      obtain ⟨y, yv⟩ := y
      obtain ⟨z, zv⟩ := z
      have hz2 := Option.some.inj hz1
      dsimp only at hz2
      subst hz2
      have hb1 := hfam j _ hz
      have hb2 := (hall _ (List.mem_of_getElem? hy)).mono hle03
      dsimp only at hb1 hb2 hy1
      have heq := fun (w : World) (μc : Mem) (hw : MOk μc w) (hle : MLe μ3 μc) => sEqual_spec w μc hw _ _ _ _ (hb1.mono hle) (hb2.mono hle)
      obtain ⟨Az, cz, hzv, -, -⟩ := id hb1
      obtain ⟨Ay, cy, hyv, -, -⟩ := id hb2
      subst hyv
      have hlz : (oneS ((scs ps).take j) y).names.length = y.names.length := by rw [oneS_eq, numBd_length]
      rw [hlz] at hzv
      subst hzv
      have hmy3 : MCells μ3 (ad.add (j * 5)) [.int .i64 y.up, .int .i64 y.fn, .int .i64 y.kind, .int .i64 y.at', .slice Ay y.names.length cy] := hmy.mono hle03
      have hmz3 : MCells μ3 ((Addr.mk g 0 none).add (j * 5)) [.int .i64 y.up, .int .i64 y.fn, .int .i64 y.kind, .int .i64 y.at', .slice Az y.names.length cz] := hmz
      by_cases hse : (oneS ((scs ps).take j) y).names = y.names
      · rw [dP_t hse] at heq
        repeat' (first | refine KO ?_ | (refine KV (b := by first | exact U1 j | exact U4 hmz3) (c := ?_)) | refine KI ?_ | refine NB fun b => ?_ | (refine KB ?_ ?_ <;> intro hp) | refine KG ?_ | fail)
        all_goals try (exfalso; first | omega | contradiction)
        all_goals refine gc_draw 9 _ (by kernel_rfl) rfl (List.Sublist.cons_cons _ (List.nil_sublist _)) ?_
                  all_goals (first | refine D1 0 ?_ | (refine DV (k := 0) (b := by first | exact U1 j | exact U4 hmy3) (c := ?_)) | refine DD 0 ?_ | fail)
                  all_goals (first | refine D1 1 ?_ | (refine DV (k := 1) (b := by first | exact U1 j | exact U4 hmy3) (c := ?_)) | (refine D3 1 (DW (b := by first | exact U1 j | exact U4 hmy3) (c := ?_))) | refine DD 1 ?_ | fail)
                  all_goals refine DD 2 ?_
                  all_goals refine DD 3 ?_
                  all_goals (first | refine D1 4 ?_ | (refine DV (k := 4) (b := by first | exact U1 j | exact U4 hmy3) (c := ?_)) | refine DD 4 ?_ | fail)
                  all_goals (first | refine D1 5 ?_ | (refine DV (k := 5) (b := by first | exact U1 j | exact U4 hmy3) (c := ?_)) | refine DD 5 ?_ | fail)
                  all_goals (first | refine D1 6 ?_ | (refine DV (k := 6) (b := by first | exact U1 j | exact U4 hmy3) (c := ?_)) | (refine D3 6 (DW (b := by first | exact U1 j | exact U4 hmy3) (c := ?_))) | refine DD 6 ?_ | fail)
                  all_goals (first | (refine D3 7 ?_; refine D5 ?_; (with_reducible apply F1 20); exact rfl; exact EN; exact fun w μc hw hse => heq w μc hw hse.le; refine D9 ?_))
                  all_goals refine DD 8 ?_
                  all_goals refine D8 ?_
        all_goals repeat' (first | refine KK ?_ | refine NB fun b => ?_ | (refine KB ?_ ?_ <;> intro hp) | refine KG ?_ | fail)
        all_goals try (exfalso; first | omega | contradiction)
        all_goals exact gq_backS (j + 1) ⟨by omega, fun k s hk hs => by
          by_cases h : k < j
          · exact hsame k s h hs
          · obtain rfl : k = j := by omega
            rw [hy1] at hs
            cases hs
            exact hse⟩ (by omega) rfl PU PS
      · have hF : false = R := by
          rw [← hR]; symm
          exact dP_f (fun h => hse ((numS_iff _).1 h.2.2 j y hy1))
        rw [dP_f hse] at heq
        repeat' (first | refine KO ?_ | (refine KV (b := by first | exact U1 j | exact U4 hmz3) (c := ?_)) | refine KI ?_ | refine NB fun b => ?_ | (refine KB ?_ ?_ <;> intro hp) | refine KG ?_ | fail)
        all_goals try (exfalso; first | omega | contradiction)
        all_goals refine gc_draw 9 _ (by kernel_rfl) rfl (List.Sublist.cons_cons _ (List.nil_sublist _)) ?_
                  all_goals (first | refine D1 0 ?_ | (refine DV (k := 0) (b := by first | exact U1 j | exact U4 hmy3) (c := ?_)) | refine DD 0 ?_ | fail)
                  all_goals (first | refine D1 1 ?_ | (refine DV (k := 1) (b := by first | exact U1 j | exact U4 hmy3) (c := ?_)) | (refine D3 1 (DW (b := by first | exact U1 j | exact U4 hmy3) (c := ?_))) | refine DD 1 ?_ | fail)
                  all_goals refine DD 2 ?_
                  all_goals refine DD 3 ?_
                  all_goals (first | refine D1 4 ?_ | (refine DV (k := 4) (b := by first | exact U1 j | exact U4 hmy3) (c := ?_)) | refine DD 4 ?_ | fail)
                  all_goals (first | refine D1 5 ?_ | (refine DV (k := 5) (b := by first | exact U1 j | exact U4 hmy3) (c := ?_)) | refine DD 5 ?_ | fail)
                  all_goals (first | refine D1 6 ?_ | (refine DV (k := 6) (b := by first | exact U1 j | exact U4 hmy3) (c := ?_)) | (refine D3 6 (DW (b := by first | exact U1 j | exact U4 hmy3) (c := ?_))) | refine DD 6 ?_ | fail)
                  all_goals (first | (refine D3 7 ?_; refine D5 ?_; (with_reducible apply F1 20); exact rfl; exact EN; exact fun w μc hw hse => heq w μc hw hse.le; refine D9 ?_))
                  all_goals refine DD 8 ?_
                  all_goals refine D8 ?_
        all_goals repeat' (first | refine KK ?_ | refine NB fun b => ?_ | (refine KB ?_ ?_ <;> intro hp) | refine KG ?_ | fail)
        all_goals first | exact ret_s rfl rfl (congrArg _ hF) | (exfalso; first | omega | contradiction)
    · have hT : true = R := by
        rw [← hR]; symm
        exact dP_t ⟨⟨x0, hs0, hk0, hu0, hf0⟩, fun j s hs => hok j s (by have := (List.getElem?_eq_some_iff.1 hs).1; omega) hs, (numS_iff _).2 fun k s hs => hsame k s (by have := (List.getElem?_eq_some_iff.1 hs).1; omega) hs⟩
      repeat' (first | refine KK ?_ | refine NB fun b => ?_ | (refine KB ?_ ?_ <;> intro hp) | refine KG ?_ | fail)
      all_goals first | exact ret_s rfl rfl (congrArg _ hT) | (exfalso; first | omega | contradiction)
end Go.Proofs.YtccbkihnedpjcaaDoor
