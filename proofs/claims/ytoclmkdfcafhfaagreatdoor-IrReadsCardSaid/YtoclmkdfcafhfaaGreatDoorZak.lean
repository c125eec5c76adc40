/- A machine for closed runs: maps, and slices whose place becomes unknown. -/
import Derived.Test.YtoclmkdfcafhfaaGreatDoorZaj
import Derived.Deep.OwnRows
import Derived.Lib.UnsafeStr
import Derived.Lib.AppendStr
import Derived.Lib.FrozenHead
set_option maxRecDepth 20000
set_option maxHeartbeats 2000000
namespace Go.Rex
section
open Go.RowKit Go.MapKept
open Go.Vcg (jP jN eU bA cH dF add_lit bW aK kA gB iU uW lB kF kV AF uY)
attribute [local irreducible] dX
section
variable {P : Program} {N : Nat} {w0 : World} {ρ : Env} {h : Heap} {l : Sls} {a : Act} {w : World} {nx : Nat}
variable {ds : Option Nat} {ty : TypeId} {pos : String} {af : Array Edge} {gd : Option (Nat × Bool)}
def QE (h : Heap) (b0 nx : Nat) : Option Eff := some (.val (.map (some b0)) (eL h b0 (some (.map []))) nx)
theorem GM {b0 nx' : Nat} (r : Rel w0 ρ h nx w) (hf : jG ρ nx b0 nx') {t : TypeId} {f : Eff} (e : QE h b0 nx' = some f) : vA P w0 ρ h b0 a w ⟨ds, .makeMap t none, ty, pos, af, gd⟩ f := by
  unfold QE at e
  cases e
  refine ⟨_, .map (some w.heap.size), _, iF hf.free, fG, Pr.set (Nat.lt_of_lt_of_le hf.lt hf.small) _, by simp [rv, eT], r.put (C := 0) hf rfl (LH w (.map #[] 0)) r.aT.size r.yC ⟨[], by simp [rvp], ?_⟩, ?_⟩
  · rw [heap_alloc_new]; simp [fU]
  · simp [execOp, run_makeMap]
def GB : TypeDesc → Value → Bool
  | .bool, .bool _ => true
  | .string, .string _ => true
  | .int k, .int k' _ => decide (k' = k)
  | _, _ => false
theorem sL {d : TypeDesc} {k : Value} (h : GB d k = true) : IsKey d k ∧ flat k = true := by
  unfold GB at h
  split at h
  · exact ⟨trivial, rfl⟩
  · exact ⟨trivial, rfl⟩
  · have h2 := of_decide_eq_true h
    exact ⟨h2, rfl⟩
  · cases h
def JV (d : TypeDesc) (k : Value) : List (Value × Value) → Option (Option Value)
  | [] => some none
  | (k', v) :: r => match Instr.sameNow d k k' with
    | some true => some (some v)
    | some false => JV d k r
    | none => none
theorem kP {d : TypeDesc} {k k' : Value} {b : Bool} (h : Instr.sameNow d k k' = some b) : flat k' = true := by
  unfold Instr.sameNow at h
  split at h
  · rfl
  · rfl
  · rfl
  · cases h
theorem oZ {d : TypeDesc} {k : Value} : ∀ {es ES : List (Value × Value)} {x : Option Value} {j i : Nat}, rvp ρ es = some ES → JV d k es = some x →
    (x = none ∧ Instr.findNow d k (fU j ES) i = some none) ∨ ∃ v V n, x = some v ∧ rv ρ v = some V ∧ Instr.findNow d k (fU j ES) i = some (some (n, V))
  | [], ES, x, j, i, h, e => by
    simp [rvp] at h; subst h
    unfold JV at e; cases e
    exact .inl ⟨rfl, rfl⟩
  | (k', v) :: r, ES, x, j, i, h, e => by
    unfold rvp at h
    split at h
    · rename_i K V R hK hV hR
      cases h
      unfold JV at e
      split at e
      · rename_i hs
        cases e
        cases bU hK (kP hs)
        exact .inr ⟨v, V, i, rfl, hV, by simp [fU, Instr.findNow, hs]⟩
      · rename_i hs
        cases bU hK (kP hs)
        rcases oZ (j := j + 1) (i := i + 1) hR e with ⟨h1, h2⟩ | ⟨v', V', n, h1, h2, h3⟩
        · exact .inl ⟨h1, by simp [fU, Instr.findNow, hs, h2]⟩
        · exact .inr ⟨v', V', n, h1, h2, by simp [fU, Instr.findNow, hs, h3]⟩
      · cases e
    · cases h
def tP (xs : List Value) : List (Value × Value) → Option (Option Value)
  | [] => some none
  | (k', v) :: r => match k' with
    | .agg ⟨ys⟩ => match gV ys with
      | true => match AF xs ys with
        | true => match uY xs ys with
          | true => some (some v)
          | false => tP xs r
        | false => none
      | false => none
    | _ => none
theorem kR {xs : List Value} : ∀ {es ES : List (Value × Value)} {x : Option Value} {j i : Nat}, rvp ρ es = some ES → tP xs es = some x →
    (x = none ∧ lB xs (fU j ES) i = some none) ∨ ∃ v V n, x = some v ∧ rv ρ v = some V ∧ lB xs (fU j ES) i = some (some (n, V))
  | [], ES, x, j, i, h, e => by
    simp [rvp] at h; subst h
    unfold tP at e; cases e
    exact .inl ⟨rfl, rfl⟩
  | (k', v) :: r, ES, x, j, i, h, e => by
    unfold rvp at h
    split at h
    · rename_i K V R hK hV hR
      cases h
      unfold tP at e
      split at e
      · rename_i ys
        split at e
        · rename_i hfl
          have hKK : K = .agg ⟨ys⟩ := eP (by simpa [gW] using hfl) hK
          subst hKK
          split at e
          · rename_i hok
            split at e
            · rename_i heq
              cases e
              exact .inr ⟨v, V, i, rfl, hV, by simp [fU, lB, hok, heq]⟩
            · rename_i heq
              rcases kR (j := j + 1) (i := i + 1) hR e with ⟨h1, h2⟩ | ⟨v', V', n, h1, h2, h3⟩
              · exact .inl ⟨h1, by simp [fU, lB, hok, heq, h2]⟩
              · exact .inr ⟨v', V', n, h1, h2, by simp [fU, lB, hok, heq, h3]⟩
          · cases e
        · cases e
      · cases e
    · cases h
def FE (P : Program) (h : Heap) (t : TypeId) (u k : Value) (ok : Bool) : Option Value := match P.underlying t with
  | some (.map kt et) => match P.underlying kt with
    | some dk => match GB dk k with
      | true => match u with
        | .map (some b) => match cL h b with
          | some (.map es) => match JV dk k es with
            | some (some v) => match ok with
              | true => some (.tuple ⟨[v, .bool true]⟩)
              | false => some v
            | some none => match cH P et with
              | some z => match gW z with
                | true => match ok with
                  | true => some (.tuple ⟨[z, .bool false]⟩)
                  | false => some z
                | false => none
              | none => none
            | none => none
          | _ => none
        | _ => none
      | false => match k with
        | .agg ⟨xs⟩ => match gV xs with
          | true => match uW P kt xs with
            | true => match u with
              | .map (some b) => match cL h b with
                | some (.map es) => match tP xs es with
                  | some (some v) => match ok with
                    | true => some (.tuple ⟨[v, .bool true]⟩)
                    | false => some v
                  | some none => match cH P et with
                    | some z => match gW z with
                      | true => match ok with
                        | true => some (.tuple ⟨[z, .bool false]⟩)
                        | false => some z
                      | false => none
                    | none => none
                  | none => none
                | _ => none
              | _ => none
            | false => none
          | false => none
        | _ => none
    | none => none
  | _ => none
theorem AB (hk : nX ρ h w) {t : TypeId} {u k v U K : Value} {ok : Bool} (hu : rv ρ u = some U) (hkk : rv ρ k = some K) (e : FE P h t u k ok = some v) : ∃ V, rv ρ v = some V ∧ (Instr.lookup t U K ok).run P w = .ok V w := by
  unfold FE at e
  split at e
  · rename_i kt et hT
    split at e
    · rename_i dk hK
      split at e
      · rename_i hkey
        obtain ⟨hkey, hkf⟩ := sL hkey
        cases bU hkk hkf
        split at e
        · rename_i b
          split at e
          · rename_i es hg
            obtain ⟨B, C, hB, ES, g1, g2⟩ := hk b _ hg
            obtain ⟨B', C', O', hb', rfl⟩ := iI hu
            rw [hB] at hb'; cases hb'
            split at e
            · rename_i v' hf
              rcases oZ (j := 0) (i := 0) g1 hf with ⟨h1, _⟩ | ⟨v2, V, n, h1, h2, h3⟩
              · cases h1
              · cases h1
                have hr := gB (P := P) (w := w) (c := ok) hT hK hkey g2 (v := V) (ok := true) (by rw [h3]; rfl)
                split at e
                · cases e; exact ⟨.tuple #[V, .bool true], by simp [rv, rvs, h2], by simpa using hr⟩
                · cases e; exact ⟨V, h2, by simpa using hr⟩
            · rename_i hf
              split at e
              · rename_i z hz
                split at e
                · rename_i hzf
                  rcases oZ (j := 0) (i := 0) g1 hf with ⟨_, h2⟩ | ⟨v2, V, n, h1, _, _⟩
                  · have hr := gB (P := P) (w := w) (c := ok) hT hK hkey g2 (v := z) (ok := false) (by rw [h2]; simp [kA, hz])
                    split at e
                    · cases e; exact ⟨.tuple #[z, .bool false], by simp [rv, rvs, eB hzf], by simpa using hr⟩
                    · cases e; exact ⟨_, eB hzf, by simpa using hr⟩
                  · cases h1
                · cases e
              · cases e
            · cases e
          · cases e
        · cases e
      · split at e
        · rename_i xs hq0
          split at e
          · rename_i hfl
            have hKK : K = .agg ⟨xs⟩ := eP (by simpa [gW] using hfl) hkk
            subst hKK
            split at e
            · rename_i hks
              split at e
              · rename_i b
                split at e
                · rename_i es hg
                  obtain ⟨B, C, hB, ES, g1, g2⟩ := hk b _ hg
                  obtain ⟨B', C', O', hb', rfl⟩ := iI hu
                  rw [hB] at hb'; cases hb'
                  split at e
                  · rename_i v' hf
                    rcases kR (j := 0) (i := 0) g1 hf with ⟨h1, _⟩ | ⟨v2, V, n, h1, h2, h3⟩
                    · cases h1
                    · cases h1
                      have hr := kF (P := P) (w := w) (c := ok) hT hks g2 (v := V) (ok := true) (by rw [h3]; rfl)
                      split at e
                      · cases e; exact ⟨.tuple #[V, .bool true], by simp [rv, rvs, h2], by simpa using hr⟩
                      · cases e; exact ⟨V, h2, by simpa using hr⟩
                  · rename_i hf
                    split at e
                    · rename_i z hz
                      split at e
                      · rename_i hzf
                        rcases kR (j := 0) (i := 0) g1 hf with ⟨_, h2⟩ | ⟨v2, V, n, h1, _, _⟩
                        · have hr := kF (P := P) (w := w) (c := ok) hT hks g2 (v := z) (ok := false) (by rw [h2]; simp [kA, hz])
                          split at e
                          · cases e; exact ⟨.tuple #[z, .bool false], by simp [rv, rvs, eB hzf], by simpa using hr⟩
                          · cases e; exact ⟨_, eB hzf, by simpa using hr⟩
                        · cases h1
                      · cases e
                    · cases e
                  · cases e
                · cases e
              · cases e
            · cases e
          · cases e
        · cases e
    · cases e
  · cases e
def ZM (d : TypeDesc) (k v : Value) : List (Value × Value) → Option (List (Value × Value))
  | [] => some [(k, v)]
  | (k', v') :: r => match Instr.sameNow d k k' with
    | some true => some ((k, v) :: r)
    | some false => match ZM d k v r with
      | some r' => some ((k', v') :: r')
      | none => none
    | none => none
theorem NG {d : TypeDesc} {k k' : Value} (hk : IsKey d k) (h : Instr.sameNow d k k' = some true) : k' = k := by
  have h2 : IsKey d k' := by
    unfold Instr.sameNow at h
    split at h
    · rename_i kk x kk' y
      split at h
      · rename_i e; subst e; exact hk
      · cases h
    · trivial
    · trivial
    · cases h
  obtain ⟨r, h3, h4⟩ := sameNow_of_keys hk h2
  rw [h] at h3; cases h3
  exact (h4.1 rfl).symm
theorem yF {d : TypeDesc} {k v V : Value} (hk : IsKey d k) (hkf : flat k = true) (hv : rv ρ v = some V) : ∀ {es es' ES : List (Value × Value)} {j i : Nat}, rvp ρ es = some ES → ZM d k v es = some es' →
    ∃ ES', rvp ρ es' = some ES' ∧ ((Instr.findNow d k (fU j ES) i = some none ∧ fU j ES' = fU j ES ++ [MapEntry.mk k V (j + ES.length)] ∧ ES'.length = ES.length + 1) ∨
      ∃ n v0 e0, Instr.findNow d k (fU j ES) i = some (some (i + n, v0)) ∧ (fU j ES)[n]? = some e0 ∧ e0.key = k ∧ fU j ES' = (fU j ES).modify n (fun e => { e with key := k, val := V }) ∧ ES'.length = ES.length)
  | [], es', ES, j, i, h, e => by
    simp [rvp] at h; subst h
    unfold ZM at e; cases e
    exact ⟨[(k, V)], by simp [rvp, gZ hkf, hv], .inl ⟨rfl, by simp [fU], rfl⟩⟩
  | (k', v') :: r, es', ES, j, i, h, e => by
    unfold rvp at h
    split at h
    · rename_i K V' R hK hV hR
      cases h
      unfold ZM at e
      split at e
      · rename_i hs
        cases e
        cases bU hK (kP hs)
        have hkk := NG hk hs
        subst hkk
        refine ⟨(k', V) :: R, by simp [rvp, gZ hkf, hv, hR], .inr ⟨0, V', ⟨k', V', j⟩, by simp [fU, Instr.findNow, hs], by simp [fU], rfl, by simp [fU], rfl⟩⟩
      · rename_i hs
        cases bU hK (kP hs)
        split at e
        · rename_i r' hr'
          cases e
          obtain ⟨ES', g1, g2⟩ := yF hk hkf hv (j := j + 1) (i := i + 1) hR hr'
          refine ⟨(k', V') :: ES', by simp [rvp, hK, hV, g1], ?_⟩
          rcases g2 with ⟨f1, f2, f3⟩ | ⟨n, v0, e0, f1, f2, f3, f4, f5⟩
          · exact .inl ⟨by simp [fU, Instr.findNow, hs, f1], by simp [fU, f2]; omega, by simp [f3]⟩
          · exact .inr ⟨n + 1, v0, e0, by simp [fU, Instr.findNow, hs, f1]; omega, by simpa [fU] using f2, f3, by simp [fU, f4], by simp [f5]⟩
        · cases e
      · cases e
    · cases h
theorem rY {t kt et : TypeId} {dk : TypeDesc} {b ck n : Nat} {es : List MapEntry} {k v v0 : Value} {e0 : MapEntry} (ht : P.underlying t = some (.map kt et)) (hk : P.underlying kt = some dk) (hkey : IsKey dk k)
    (hb : w.heap[b]? = some (.map es.toArray ck)) (hf : Instr.findNow dk k es 0 = some (some (n, v0))) (h0 : es[n]? = some e0) (hk0 : e0.key = k) :
    (Instr.mapUpdate t (.map (some b)) k v).run P w = .ok () { w with heap := w.heap.setIfInBounds b (.map (es.modify n fun e => { e with key := k, val := v }).toArray ck) } := by
  simp [Instr.mapUpdate, run_underlying ht, MapKept.run_getObj_map hb, MapKept.run_checkKey hk hkey, MapKept.run_findKey hk hf, h0, hk0, MapKept.run_keyThatStays hkey, MapKept.run_setObj_map _ hb]
def vQ (P : Program) (h : Heap) (nx : Nat) (t : TypeId) (u k v : Value) : Option Eff := match P.underlying t with
  | some (.map kt _) => match P.underlying kt with
    | some dk => match GB dk k with
      | true => match u with
        | .map (some b) => match cL h b with
          | some (.map es) => match ZM dk k v es with
            | some es' => some (.skip (eL h b (some (.map es'))) nx)
            | none => none
          | _ => none
        | _ => none
      | false => match k with
        | .agg ⟨xs⟩ => match gV xs with
          | true => match uW P kt xs with
            | true => match u with
              | .map (some b) => match cL h b with
                | some (.map es) => match tP xs es with
                  | some none => some (.skip (eL h b (some (.map (es ++ [(.agg ⟨xs⟩, v)])))) nx)
                  | _ => none
                | _ => none
              | _ => none
            | false => none
          | false => none
        | _ => none
    | none => none
  | _ => none
theorem LQ : ∀ (l : List (Value × Value)) (j : Nat) (k v : Value), fU j (l ++ [(k, v)]) = fU j l ++ [MapEntry.mk k v (j + l.length)]
  | [], j, k, v => rfl
  | (a, b) :: r, j, k, v => by
    have := LQ r (j + 1) k v
    simp only [List.cons_append, fU, this, List.length_cons]
    rw [show j + 1 + r.length = j + (r.length + 1) by omega]
theorem RY {k v V : Value} (hk : rv ρ k = some k) (hv : rv ρ v = some V) : ∀ {es ES : List (Value × Value)}, rvp ρ es = some ES → rvp ρ (es ++ [(k, v)]) = some (ES ++ [(k, V)])
  | [], ES, h => by
    simp [rvp] at h; subst h
    simp [rvp, hk, hv]
  | (a, b) :: r, ES, h => by
    unfold rvp at h
    split at h
    · rename_i K B R h1 h2 h3
      cases h
      have ih := RY hk hv h3
      simp only [List.cons_append]
      unfold rvp
      rw [h1, h2, ih]
    · cases h
theorem qP (r : Rel w0 ρ h nx w) {t : TypeId} {m x y : Operand} {u k v : Value} {f : Eff} {op : Op} (hop : op = .insert t m x y ∨ op = .mapUpdate t m x y) (hu : rv ρ u = some (a.eval m)) (hkk : rv ρ k = some (a.eval x)) (hv : rv ρ v = some (a.eval y)) {b0 : Nat} (e : vQ P h nx t u k v = some f) :
    vA P w0 ρ h b0 a w ⟨ds, op, ty, pos, af, gd⟩ f := by
  unfold vQ at e
  split at e
  · rename_i kt et hT
    split at e
    · rename_i dk hK
      split at e
      · rename_i hkey
        obtain ⟨hkey, hkf⟩ := sL hkey
        have hke := bU hkk hkf
        split at e
        · rename_i b
          split at e
          · rename_i es hg
            obtain ⟨B, C, hB, ES, g1, g2⟩ := r.ok b _ hg
            obtain ⟨B', C', O', hb', hue⟩ := iI hu
            rw [hB] at hb'; cases hb'
            split at e
            · rename_i es' hset'
              cases e
              obtain ⟨ES', k1, k2⟩ := yF hkey hkf hv (j := 0) (i := 0) g1 hset'
              have hBlt := (Array.getElem?_eq_some_iff.1 g2).1
              have upd : ∀ ob : Obj, ob = .map (fU 0 ES').toArray ES'.length → Rel w0 ρ (eL h b (some (.map es'))) nx { w with heap := w.heap.setIfInBounds B ob } := fun ob hob =>
                r.upd hg rfl rfl hB ⟨rfl, rfl, rfl, by simp, fun c _ hc => by simp [Array.getElem?_setIfInBounds_ne (Ne.symm hc)]⟩ ⟨ES', k1, by
                  show (w.heap.setIfInBounds B ob)[B]? = _
                  rw [Array.getElem?_setIfInBounds_self_of_lt hBlt, hob]⟩
              rcases k2 with ⟨f1, f2, f3⟩ | ⟨n, v0, e0, f1, f2, f3, f4, f5⟩
              · have hr := iU (P := P) (w := w) (v := a.eval y) hT hK hkey g2 f1
                refine ⟨_, Pr.set (cJ hg) _, upd (.map (fU 0 ES ++ [MapEntry.mk k (a.eval y) ES.length]).toArray (ES.length + 1)) ?_, ?_⟩
                · rw [f2, f3, Nat.zero_add]
                · generalize a.eval = ev at hke hue hr
                  rcases hop with rfl | rfl <;> simp [execOp, hke, hue, hr]
              · have hr := rY (P := P) (w := w) (v := a.eval y) hT hK hkey g2 (by simpa using f1) f2 f3
                refine ⟨_, Pr.set (cJ hg) _, upd (.map ((fU 0 ES).modify n fun e => { e with key := k, val := a.eval y }).toArray ES.length) ?_, ?_⟩
                · rw [f4, f5]
                · generalize a.eval = ev at hke hue hr
                  rcases hop with rfl | rfl <;> simp [execOp, hke, hue, hr]
            · cases e
          · cases e
        · cases e
      · split at e
        · rename_i xs hq0
          split at e
          · rename_i hfl
            have hfk : rv ρ (.agg ⟨xs⟩) = some (.agg ⟨xs⟩) := eB (by simpa [gW] using hfl)
            have hke : a.eval x = .agg ⟨xs⟩ := eP (by simpa [gW] using hfl) hkk
            split at e
            · rename_i hks
              split at e
              · rename_i b
                split at e
                · rename_i es hg
                  obtain ⟨B, C, hB, ES, g1, g2⟩ := r.ok b _ hg
                  obtain ⟨B', C', O', hb', hue⟩ := iI hu
                  rw [hB] at hb'; cases hb'
                  split at e
                  · rename_i hf
                    cases e
                    rcases kR (j := 0) (i := 0) g1 hf with ⟨_, f1⟩ | ⟨v2, V, n, h1, _, _⟩
                    · have hBlt := (Array.getElem?_eq_some_iff.1 g2).1
                      have hr : (Instr.mapUpdate t (.map (some B)) (.agg ⟨xs⟩) (a.eval y)).run P w = .ok () { w with heap := w.heap.setIfInBounds B (.map (fU 0 ES ++ [MapEntry.mk (.agg ⟨xs⟩) (a.eval y) ES.length]).toArray (ES.length + 1)) } := kV (P := P) (w := w) (v := a.eval y) hT hks g2 f1
                      have upd : Rel w0 ρ (eL h b (some (.map (es ++ [(.agg ⟨xs⟩, v)])))) nx { w with heap := w.heap.setIfInBounds B (.map (fU 0 ES ++ [MapEntry.mk (.agg ⟨xs⟩) (a.eval y) ES.length]).toArray (ES.length + 1)) } :=
                        r.upd hg rfl rfl hB ⟨rfl, rfl, rfl, by simp, fun c _ hc => by simp [Array.getElem?_setIfInBounds_ne (Ne.symm hc)]⟩ ⟨ES ++ [(.agg ⟨xs⟩, a.eval y)], RY hfk hv g1, by
                          show (w.heap.setIfInBounds B _)[B]? = _
                          rw [Array.getElem?_setIfInBounds_self_of_lt hBlt, LQ, Nat.zero_add, List.length_append]
                          rfl⟩
                      refine ⟨_, Pr.set (cJ hg) _, upd, ?_⟩
                      generalize a.eval = ev at hke hue hr upd ⊢
                      rcases hop with rfl | rfl <;> simp [execOp, hke, hue, hr]
                    · cases h1
                  · cases e
                · cases e
              · cases e
            · cases e
          · cases e
        · cases e
    · cases e
  · cases e
def aFg (P : Program) (h : Heap) (b0 nx : Nat) (t : TypeId) (u : Value) (lo hi : Option Value) : Option Eff := match P.underlying t with
    | some (.slice e) => match bA P e with
      | some _ => match u with
        | .slice (some ⟨_, _, none⟩) n c => match Nat.blt c dX with
          | true => none
          | false => match cZ lo 0 with
            | some i => match cZ hi n with
              | some j => match Nat.beq i n with
                | true => match Nat.beq j n with
                  | true => some (.val (.slice (some ⟨b0, 0, none⟩) 0 dX) h nx)
                  | false => none
                | false => none
              | none => none
            | none => none
        | _ => none
      | none => none
    | _ => none
theorem QF {b0 nx' : Nat} (r : Rel w0 ρ h nx w) (hf : jG ρ nx b0 nx') {t : TypeId} {u U : Value} {lo hi : Option Value} {f : Eff} (hu : rv ρ u = some U) (e : aFg P h b0 nx' t u lo hi = some f) :
    ∃ v V ρ', f = .val v h nx' ∧ ELe ρ ρ' ∧ (∀ c, c ≠ b0 → ρ' c = ρ c) ∧ rv ρ' v = some V ∧ Rel w0 ρ' h nx' w ∧ (Instr.sliceAt t U lo hi none).run P w = .ok V w := by
  unfold aFg at e
  by_cases hdummy : True
  · split at e
    · rename_i el ht
      split at e
      · rename_i s hs
        split at e
        · rename_i b o n c
          obtain ⟨B, C, O, hb, hU⟩ := iT hu
          split at e
          · cases e
          · rename_i hc
            have hc := aDz hc
            rcases hU with ⟨hlt, _⟩ | ⟨_, hnC, rfl⟩
            · omega
            split at e
            · rename_i i hi'
              split at e
              · rename_i j hj
                split at e
                · rename_i hin
                  split at e
                  · rename_i hjn
                    cases e
                    have hin := Nat.eq_of_beq_eq_true hin
                    have hjn := Nat.eq_of_beq_eq_true hjn
                    subst hin
                    subst hjn
                    have hr := lM (P := P) (w := w) (A := some ⟨B, O + o, none⟩) (n := j) (c := C - (c - dX)) ht hs hi' hj (Nat.le_refl _) (by omega)
                    have hx : ∃ O', (if C - (c - dX) = j then (some ⟨B, O + o, none⟩ : Option Addr) else (some ⟨B, O + o, none⟩ : Option Addr).map (·.add (j * s))) = some ⟨B, O', none⟩ := by
                      split
                      · exact ⟨_, rfl⟩
                      · exact ⟨O + o + j * s, by simp only [Option.map_some, add_lit]⟩
                    obtain ⟨O', hx⟩ := hx
                    rw [hx, Nat.sub_self] at hr
                    refine ⟨_, _, ext ρ b0 (B, C - (c - dX) - j, O'), rfl, iF hf.free, fG, ?_, r.name hf _, hr⟩
                    have := fI (ρ := ext ρ b0 (B, C - (c - dX) - j, O')) (b := b0) (o := 0) (n := 0) (c := dX) eT (Nat.le_refl _) (by rw [Nat.sub_self]; omega)
                    rw [this]
                    simp
                  · cases e
                · cases e
              · cases e
            · cases e
        · cases e
      · cases e
    · cases e
  · exact absurd trivial hdummy
def aAv (P : Program) (h : Heap) (b0 nx : Nat) (t : TypeId) (u v : Value) : Option Eff := match u with
  | .int .i64 (.ofNat n) => match v with
    | .int .i64 (.ofNat m) => match Nat.beq n m with
      | true => match P.underlying t with
        | some (.slice e) => match bA P e with
          | some s => match Nat.beq s 1 with
            | true => match cH P e with
              | some z => match flat z with
                | true => match dF P e with
                  | some bytes => match Nat.ble (bytes * n) 16777216 with
                    | true => match Nat.ble n 16777216 with
                      | true => some (.val (.slice (some ⟨b0, 0, none⟩) n n) (eL h b0 (some (.cells (List.replicate n z) e false))) nx)
                      | false => none
                    | false => none
                  | none => none
                | false => none
              | none => none
            | false => none
          | none => none
        | _ => none
      | false => none
    | _ => none
  | _ => none
theorem aAr {z : Value} (h : flat z = true) : z.cells = #[z] := by
  unfold flat at h
  split at h <;> first | rfl | cases h
theorem oC {z : Value} (h : flat z = true) : ∀ n, gV (List.replicate n z) = true
  | 0 => rfl
  | n + 1 => by rw [List.replicate_succ, gV, h]; exact oC h n
theorem LR {b0 nx' : Nat} (r : Rel w0 ρ h nx w) (hf : jG ρ nx b0 nx') {t : TypeId} {x y : Operand} {u v : Value} {f : Eff} (hu : rv ρ u = some (a.eval x)) (hv : rv ρ v = some (a.eval y)) (e : aAv P h b0 nx' t u v = some f) : vA P w0 ρ h b0 a w ⟨ds, .makeSlice t x y, ty, pos, af, gd⟩ f := by
  unfold aAv at e
  split at e
  · rename_i n
    split at e
    · rename_i m
      split at e
      · rename_i hnm
        have hnm := Nat.eq_of_beq_eq_true hnm
        subst hnm
        split at e
        · rename_i el hT
          split at e
          · rename_i s hs
            split at e
            · rename_i hs1
              have hs1 := Nat.eq_of_beq_eq_true hs1
              subst hs1
              split at e
              · rename_i z hz
                split at e
                · rename_i hfl
                  split at e
                  · rename_i bytes hby
                    split at e
                    · rename_i hb1
                      have hb1 := eC hb1
                      split at e
                      · rename_i hb2
                        have hb2 := eC hb2
                        cases e
                        have hinfo : (P.info? el).map (fun i => (i.zero, i.size, i.bytes)) = some (some z, 1, bytes) := by
                          unfold bA at hs
                          unfold cH at hz
                          unfold dF at hby
                          cases hi : P.info? el with
                          | none => simp [hi] at hs
                          | some i =>
                            simp [hi, Go.Vcg.eR] at hs
                            simp [hi] at hz
                            simp [hi, Go.Vcg.jS] at hby
                            simp [hs, hz, hby]
                        have hr := run_make_row' (P := P) t el z bytes hT hinfo (aAr hfl) .i64 .i64 n (by omega) (by omega) w
                        have e1 := bU hu rfl
                        have e2 := bU hv rfl
                        have hcs : rvs ρ (List.replicate n z) = some (List.replicate n z) := fO (oC hfl n)
                        have hmade : madeCells #[z] n = (List.replicate n z).toArray := by
                          rw [← Array.toList_inj]
                          simp [toList_madeCells_one]
                        rw [hmade] at hr
                        refine ⟨_, .slice (some ⟨w.heap.size, 0 + 0, none⟩) n n, _, iF hf.free, fG, Pr.set (Nat.lt_of_lt_of_le hf.lt hf.small) _, oO eT (by have := MC; omega), r.cells hf hcs el, ?_⟩
                        generalize a.eval = ev at e1 e2
                        simp [execOp, e1, e2, hr]
                      · cases e
                    · cases e
                  · cases e
                · cases e
              · cases e
            · cases e
          · cases e
        · cases e
      · cases e
    · cases e
  · cases e
end
end
section
open Go.RowKit Go.MapKept
open Go.Vcg (jP jN eU bA cH dF add_lit bW eR jS)
attribute [local irreducible] dX
section
variable {P : Program} {N : Nat} {w0 : World} {ρ : Env} {h : Heap} {l : Sls} {a : Act} {w : World} {nx : Nat}
variable {ds : Option Nat} {ty : TypeId} {pos : String} {af : Array Edge} {gd : Option (Nat × Bool)}
theorem zY {vs VS : List Value} (hf : gV vs = true) (e : rvs ρ vs = some VS) : VS = vs := by rw [fO hf] at e; cases e; rfl
theorem kT (s : ByteArray) : gV (Lib.strCells s) = true := by
  unfold Lib.strCells
  generalize s.data.toList = l
  induction l with
  | nil => rfl
  | cons x r ih => simp only [List.map_cons, gV, flat, ih]
theorem BV {b0 nx' : Nat} (r : Rel w0 ρ h nx w) (hf : jG ρ nx b0 nx') {el s n' : Nat} {b B C : Nat} {cs cs' CS' : List Value} {V' : Value} {w' : World} (hg : cL h b = some (.row cs el s)) (hb : ρ b = some (B, C, 0))
    (hcs : rvs ρ cs' = some CS') (r2 : w'.ownsRow 0 el s V' n' CS') (hn' : 0 < n') (r3 : w.grownBy w' (some B)) (r4 : V'.ownBlock = some B ∨ V'.ownBlock = some w.heap.size) :
    ∃ ρ', ELe ρ ρ' ∧ (∀ c, c ≠ b0 → ρ' c = ρ c) ∧ rv ρ' (.slice (some ⟨b0, 0, none⟩) n' dX) = some V' ∧ Rel w0 ρ' (eL (eL h b none) b0 (some (.row cs' el s))) nx' w' := by
  have hB0 := r.own b _ hg rfl B C hb
  rcases r2.2 with ⟨h1, h2⟩ | ⟨g, cap, cur, hv', _, k1, k2, k3, k4, k5⟩
  · omega
  subst hv'
  have hgB : g = B ∨ g = w.heap.size := by
    rcases r4 with r4 | r4
    · left; simp only [Value.ownBlock, Option.some.injEq] at r4; exact r4
    · right; simp only [Value.ownBlock, Option.some.injEq] at r4; exact r4
  have fr : Fr2 g B w w' := ⟨r3.os, r3.tape, r3.output, r3.size, fun k hk _ hkB => r3.block k hk (by simp only [ne_eq, Option.some.injEq]; exact fun e => hkB (by omega))⟩
  have hfreeB : ∀ c o C', cL (eL h b none) c = some o → ρ c = some (B, C', 0) → False := fun c o C' e1 e2 => by
    by_cases hcb : c = b
    · subst hcb; rw [cV (cJ hg)] at e1; cases e1
    · rw [bC (cJ hg) hcb] at e1
      exact hcb (r.inj c b o _ B C' C e1 hg e2 hb)
  have hfreeg : ∀ c o C', cL (eL h b none) c = some o → ρ c = some (g, C', 0) → False := fun c o C' e1 e2 => by
    rcases hgB with rfl | rfl
    · exact hfreeB c o C' e1 e2
    · exact (r.drop (cJ hg)).yC c o C' e1 e2
  have hg0 : w0.heap.size ≤ g := by
    rcases hgB with rfl | rfl
    · exact hB0
    · exact r.aT.size
  have hle := iF (x := (g, cap, 0)) hf.free
  have hobj' : kC (ext ρ b0 (g, cap, 0)) cap (.row cs' el s) w'.heap[g]? :=
    ⟨CS', cur, eJ hle hcs, k1, k4, k3, by rw [r2.1, k4]; exact Nat.mul_le_mul_right _ k2, by rw [r2.1]; exact k5⟩
  refine ⟨_, hle, fG, ?_, (r.drop (cJ hg)).aEq hf rfl fr hg0 hB0 hfreeB hfreeg hobj'⟩
  have := fI (ρ := ext ρ b0 (g, cap, 0)) (b := b0) (o := 0) (n := n') (c := dX) eT (Nat.le_refl _) (by rw [Nat.sub_self]; omega)
  rw [this]
  simp
def aAw (P : Program) (h : Heap) (b0 nx : Nat) (t t' : TypeId) (u v : Value) : Option Eff := match P.underlying t with
  | some (.slice e) => match P.underlying t' with
    | some .string => match v with
      | .string s => match Nat.blt 0 s.size with
        | true => match bA P e with
          | some 1 => match dF P e with
            | some 1 => match cH P e with
              | some (.int .u8 0) => match u with
                | .slice none 0 0 => match Nat.ble s.size 16777216 with
                  | true => some (.val (.slice (some ⟨b0, 0, none⟩) s.size dX) (eL h b0 (some (.row (Lib.strCells s) e 1))) nx)
                  | false => none
                | .slice (some ⟨b, o, none⟩) n c => match Nat.ble (n + s.size) 16777216 with
                  | true => match Nat.beq c dX with
                    | true => match cL h b with
                      | some (.row cs e' s') => match Nat.beq o 0 with
                        | true => match Nat.beq e' e with
                          | true => match Nat.beq s' 1 with
                            | true => match Nat.beq cs.length n with
                              | true => some (.val (.slice (some ⟨b0, 0, none⟩) (n + s.size) dX) (eL (eL h b none) b0 (some (.row (cs ++ Lib.strCells s) e 1))) nx)
                              | false => none
                            | false => none
                          | false => none
                        | false => none
                      | _ => none
                    | false => none
                  | false => none
                | _ => none
              | _ => none
            | _ => none
          | _ => none
        | false => none
      | _ => none
    | _ => none
  | _ => none
theorem EJ {p q : Operand} {t t' : TypeId} {v x v' : Value} {w' : World} {ρ : Operand → Value} {ds : Option Nat} (hp : ρ p = v) (hq : ρ q = x) (hr : (Builtin.append_ #[t, t'] ty #[v, x]).run P w = .ok v' w') :
    (execOp ρ ⟨ds, .call { callee := .builtin .append, args := #[p, q], argTypes := #[t, t'] }, ty, pos, af, gd⟩).run P w = .ok (.value v') w' := by
  simp only [execOp, resolve, invoke, builtin, Sem.run_bind, Sem.run_pure, Result.andThen_ok, List.map_toArray, List.map_cons, List.map_nil, hp, hq, hr]
theorem GF {e : TypeId} {s bytes : Nat} {z : Value} (hs : bA P e = some s) (hz : cH P e = some z) (hby : dF P e = some bytes) : ∃ i, P.info? e = some i ∧ i.zero = some z ∧ i.size = s ∧ i.bytes = bytes := by
  unfold bA at hs
  unfold cH at hz
  unfold dF at hby
  cases hi : P.info? e with
  | none => simp [hi] at hs
  | some i =>
    simp [hi, eR] at hs
    simp [hi] at hz
    simp [hi, jS] at hby
    exact ⟨i, rfl, hz, hs, hby⟩
set_option maxHeartbeats 1000000 in
theorem LS {b0 nx' : Nat} (r : Rel w0 ρ h nx w) (hf : jG ρ nx b0 nx') {t t' : TypeId} {x y : Operand} {u v : Value} {f : Eff} (hu : rv ρ u = some (a.eval x)) (hv : rv ρ v = some (a.eval y)) (e : aAw P h b0 nx' t t' u v = some f) :
    vA P w0 ρ h b0 a w ⟨ds, .call { callee := .builtin .append, args := #[x, y], argTypes := #[t, t'] }, ty, pos, af, gd⟩ f := by
  have call : ∀ {V' w'}, (Builtin.append_ #[t, t'] ty #[a.eval x, a.eval y]).run P w = .ok V' w' → (execOp a.eval ⟨ds, .call { callee := .builtin .append, args := #[x, y], argTypes := #[t, t'] }, ty, pos, af, gd⟩).run P w = .ok (.value V') w' :=
    fun hr => EJ rfl rfl hr
  have hbs : b0 < 1048576 := Nat.lt_of_lt_of_le hf.lt hf.small
  unfold aAw at e
  split at e
  · rename_i el hT
    split at e
    · rename_i hT'
      split at e
      · rename_i s
        have hV := bU hv rfl
        split at e
        · rename_i hpos
          have hpos := gR hpos
          split at e
          · rename_i hs
            split at e
            · rename_i hby
              split at e
              · rename_i hz
                obtain ⟨i, hi, hiz, his, hib⟩ := GF hs hz hby
                have hsl := Lib.strCells_length s
                split at e
                · split at e
                  · rename_i hle
                    have hle := eC hle
                    cases e
                    have hU := bU hu rfl
                    have hr := run_append_nil_string (P := P) w t t' ty el i (.int .u8 0) hT hT' hi hiz s (by omega) (by omega) (by rw [hib]; omega)
                    have e1 : (s.data.map fun b => Value.int .u8 b.toNat) = (Lib.strCells s).toArray := by
                      apply Array.ext'
                      simp [Lib.strCells]
                    rw [e1] at hr
                    have hC1 := grownCap_ge w s.size 0 el
                    have hC2 := grownCap_le_maxLen w s.size 0 el (by simp only [maxLen]; omega)
                    obtain ⟨q1, q2, q3⟩ := vD (z := .int .u8 0) (s := 1) rfl (by rw [hsl, Nat.mul_one]) hC1
                    refine ⟨_, _, _, iF hf.free, fG, Pr.set hbs _, ?_, r.row hf (fO (kT s)) el q1 hC2 q2 q3, call (by rw [hV, hU]; exact hr)⟩
                    have := fI (ρ := ext ρ b0 (w.heap.size, grownCap w s.size 0 el, 0)) (b := b0) (o := 0) (n := s.size) (c := dX) eT (Nat.le_refl _) (by rw [Nat.sub_self]; omega)
                    rw [this]
                    simp
                  · cases e
                · rename_i b o n c
                  obtain ⟨B, C, O, hb, hU⟩ := iT hu
                  split at e
                  · rename_i hle
                    have hle := eC hle
                    split at e
                    · rename_i hc
                      have hc := Nat.eq_of_beq_eq_true hc
                      subst hc
                      split at e
                      · rename_i cs e' s' hg
                        split at e
                        · rename_i ho
                          split at e
                          · rename_i he'
                            split at e
                            · rename_i hs'
                              split at e
                              · rename_i hcl
                                have ho := Nat.eq_of_beq_eq_true ho
                                have he' := Nat.eq_of_beq_eq_true he'
                                have hs' := Nat.eq_of_beq_eq_true hs'
                                have hcl := Nat.eq_of_beq_eq_true hcl
                                subst ho; subst he'; subst hs'
                                cases e
                                rcases hU with ⟨hlt, _⟩ | ⟨_, hnC, hU⟩
                                · exact absurd hlt (Nat.lt_irrefl _)
                                rw [Nat.sub_self, Nat.add_zero] at hnC
                                rw [Nat.sub_self, Nat.sub_zero, Nat.add_zero] at hU
                                obtain ⟨B', C', hB', CS, arr, g1, g2, g3, g4, g5, g6⟩ := r.ok b _ hg
                                rw [hb] at hB'
                                cases hB'
                                have hCl := cW g1
                                have hrow := gA g1 (fO (ρ := ρ) (kT s))
                                have hll : (CS ++ Lib.strCells s).length = (n + s.size) * 1 := by rw [List.length_append, hsl, hCl, hcl, Nat.mul_one]
                                have hCl' : CS.length = n := by omega
                                have g3' : arr.size = C := by omega
                                by_cases hroom : n + s.size ≤ C
                                · have hr := Lib.run_append_room_string (P := P) w t t' ty e' i hT hT' hi his B n C arr g2 s hroom (by omega)
                                  obtain ⟨ρ', q1, q2, q3, q4⟩ := BV (w' := w.setRow B (arr.toList.take n ++ Lib.strCells s ++ arr.toList.drop (n + s.size)).toArray) (V' := .slice (some ⟨B, 0, none⟩) (n + s.size) C) r hf hg hb hrow (n' := n + s.size)
                                    ⟨hll, .inr ⟨B, C, _, rfl, Nat.zero_le _, setRow_heap w B arr _ e' _ g2, hroom, g4, by simp only [List.size_toArray, List.length_append, List.length_take, List.length_drop, Array.length_toList, hsl]; omega, by
                                      rw [hCl'] at g6
                                      rw [g6, ← hll]
                                      exact List.take_left⟩⟩ (by omega)
                                    ⟨rfl, rfl, rfl, by simp, fun k _ hk => setRow_other w B k _ (fun e => hk (by simp [e]))⟩ (.inl rfl)
                                  exact ⟨ρ', _, _, q1, q2, (Pr.set (cJ hg) _).trans (Pr.set hbs _), q3, q4, call (by rw [hV, hU]; exact hr)⟩
                                · have hcell : ∀ j V, CS[j]? = some V → w.cell? ((⟨B, 0, none⟩ : Addr).add j) = some V := fun j V hj => by
                                    rw [add_lit, Nat.zero_add]
                                    have : (arr.toList.take CS.length)[j]? = some V := by rw [g6]; exact hj
                                    rw [List.getElem?_take] at this
                                    split at this
                                    · simp [World.cell?, g2]
                                      simpa using this
                                    · cases this
                                  have hr := Lib.run_append_grow_string (P := P) w t t' ty e' i (.int .u8 0) hT hT' hi hiz ⟨B, 0, none⟩ n C CS (by rw [his]; omega) hcell s (by omega) (by omega) (growslice_fits (by omega) (by rw [hib]; omega))
                                  have hge := grownCap_ge w (n + s.size) C e'
                                  have hcm := grownCap_le_maxLen w (n + s.size) C e' (by simp only [maxLen]; omega)
                                  obtain ⟨q1, q2, q3⟩ := vD (z := .int .u8 0) (s := 1) rfl hll hge
                                  have eA : CS.toArray ++ (Lib.strCells s).toArray = (CS ++ Lib.strCells s).toArray := by simp
                                  rw [eA] at hr
                                  obtain ⟨ρ', p1, p2, p3, p4⟩ := BV (V' := .slice (some ⟨w.heap.size, 0, none⟩) (n + s.size) (grownCap w (n + s.size) C e')) r hf hg hb hrow (n' := n + s.size)
                                    ⟨hll, .inr ⟨w.heap.size, _, _, rfl, Nat.zero_le _, heap_alloc_new w.drew _, hge, hcm, q1, by rw [← hll]; exact q3⟩⟩ (by omega)
                                    ⟨rfl, rfl, rfl, by simp, fun k hk _ => heap_alloc_old w.drew _ hk⟩ (.inr rfl)
                                  exact ⟨ρ', _, _, p1, p2, (Pr.set (cJ hg) _).trans (Pr.set hbs _), p3, p4, call (by rw [hV, hU]; exact hr)⟩
                              · cases e
                            · cases e
                          · cases e
                        · cases e
                      · cases e
                    · cases e
                  · cases e
                · cases e
              · cases e
            · cases e
          · cases e
        · cases e
      · cases e
    · cases e
  · cases e
def OK (u : Value) : Option Value := match u with
  | .slice (some ⟨b, o, none⟩) n c => match Nat.beq c dX with
    | true => match Nat.blt 0 n with
      | true => some (.pointer (some ⟨b, o, none⟩))
      | false => none
    | false => none
  | _ => none
theorem FD {u v U : Value} (hu : rv ρ u = some U) (e : OK u = some v) (ts : Array TypeId) (ty : TypeId) : ∃ V, rv ρ v = some V ∧ (Builtin.unsafeSliceData_ ts ty #[U]).run P w = .ok V w := by
  unfold OK at e
  split at e
  · rename_i b o n c
    split at e
    · rename_i hc
      have hc := Nat.eq_of_beq_eq_true hc
      subst hc
      split at e
      · rename_i hn
        have hn := gR hn
        cases e
        obtain ⟨B, C, O, hb, hU⟩ := iT hu
        rcases hU with ⟨hlt, _⟩ | ⟨_, hnC, rfl⟩
        · exact absurd hlt (Nat.lt_irrefl _)
        rw [Nat.sub_self] at hnC ⊢
        refine ⟨_, ?_, Lib.run_unsafeSliceData_row (P := P) w ts ty _ _ _ (by omega)⟩
        simp [rv, hb]
      · cases e
    · cases e
  · cases e
def byteOf (v : Value) : Option UInt8 := match v with
  | .int .u8 (.ofNat m) => match Nat.blt m 256 with
    | true => some (UInt8.ofNat m)
    | false => none
  | _ => none
def bytesOf : List Value → Option (List UInt8)
  | [] => some []
  | v :: r => match byteOf v with
    | some b => match bytesOf r with
      | some l => some (b :: l)
      | none => none
    | none => none
theorem mI : ∀ {cs : List Value} {l : List UInt8}, bytesOf cs = some l → cs = l.map fun b => Value.int .u8 b.toNat
  | [], l, e => by simp [bytesOf] at e; simp [e]
  | v :: r, l, e => by
    unfold bytesOf at e
    split at e
    · rename_i b hb
      split at e
      · rename_i l' hl
        cases e
        have := mI hl
        subst this
        unfold byteOf at hb
        split at hb
        · rename_i m
          split at hb
          · rename_i hm
            have hm := gR hm
            cases hb
            simp only [List.map_cons, List.cons.injEq, and_true]
            congr 1
            show ((m : Nat) : Int) = _
            rw [UInt8.toNat_ofNat', Nat.mod_eq_of_lt (by omega)]
          · cases hb
        · cases hb
      · cases e
    · cases e
def aAt (P : Program) (h : Heap) (nx : Nat) (pt : TypeId) (u v : Value) : Option Eff := match u with
  | .pointer (some ⟨b, o, none⟩) => match v with
    | .int .i64 (.ofNat n) => match Nat.beq o 0 with
      | true => match Nat.blt 0 n with
        | true => match cL h b with
          | some (.row cs e s) => match Nat.beq s 1 with
            | true => match Nat.beq cs.length n with
              | true => match P.underlying pt with
                | some (.pointer e') => match Nat.beq e' e with
                  | true => match Nat.beq (P.cellsOf e) 1 with
                    | true => match Nat.ble n 16777216 with
                      | true => match bytesOf cs with
                        | some bs => some (.val (.string ⟨⟨bs⟩⟩) (eL h b none) nx)
                        | none => none
                      | false => none
                    | false => none
                  | false => none
                | _ => none
              | false => none
            | false => none
          | _ => none
        | false => none
      | false => none
    | _ => none
  | _ => none
theorem LO (r : Rel w0 ρ h nx w) {b0 : Nat} {pt it : TypeId} {x y : Operand} {u v : Value} {f : Eff} (hu : rv ρ u = some (a.eval x)) (hv : rv ρ v = some (a.eval y)) (e : aAt P h nx pt u v = some f) :
    vA P w0 ρ h b0 a w ⟨ds, .call { callee := .builtin .unsafeString, args := #[x, y], argTypes := #[pt, it] }, ty, pos, af, gd⟩ f := by
  unfold aAt at e
  split at e
  · rename_i b o
    split at e
    · rename_i n
      have hV := bU hv rfl
      split at e
      · rename_i ho
        split at e
        · rename_i hn
          have hn := gR hn
          split at e
          · rename_i cs el s hg
            split at e
            · rename_i hs
              split at e
              · rename_i hcl
                split at e
                · rename_i e' hpt
                  split at e
                  · rename_i hee
                    split at e
                    · rename_i hce
                      split at e
                      · rename_i hnb
                        have hnb := eC hnb
                        split at e
                        · rename_i bs hbs
                          cases e
                          have ho := Nat.eq_of_beq_eq_true ho
                          have hs := Nat.eq_of_beq_eq_true hs
                          have hcl := Nat.eq_of_beq_eq_true hcl
                          have hee := Nat.eq_of_beq_eq_true hee
                          have hce := Nat.eq_of_beq_eq_true hce
                          subst ho; subst hs; subst hee
                          obtain ⟨B, C, O, hb, hU⟩ := pP hu
                          obtain ⟨B', C', hB', CS, arr, g1, g2, g3, g4, g5, g6⟩ := r.ok b _ hg
                          rw [hb] at hB'
                          cases hB'
                          have hcs := mI hbs
                          have hbl : bs.length = n := by rw [← hcl, hcs, List.length_map]
                          have hfl : gV cs = true := by
                            rw [hcs]
                            have := kT ⟨⟨bs⟩⟩
                            unfold Lib.strCells at this
                            exact this
                          have hCS := zY hfl g1
                          subst hCS
                          have hcell : ∀ j z, bs[j]? = some z → w.cell? ((⟨B, 0, none⟩ : Addr).add j) = some (.int .u8 z.toNat) := fun j z hj => by
                            have hj2 : CS[j]? = some (.int .u8 z.toNat) := by rw [hcs, List.getElem?_map, hj]; rfl
                            have hjl := (List.getElem?_eq_some_iff.1 hj2).1
                            rw [add_lit, Nat.zero_add]
                            have : (arr.toList.take CS.length)[j]? = some (.int .u8 z.toNat) := by rw [g6]; exact hj2
                            rw [List.getElem?_take, if_pos hjl] at this
                            simp [World.cell?, g2]
                            simpa using this
                          have hr := Lib.run_unsafeString_row (P := P) w pt it ty e' hpt hce B arr.size (by simp [World.shape?, g2]) bs (by intro hh; rw [hh] at hbl; simp at hbl; omega) (by omega) (by omega) hcell
                          have hB0 := r.own b _ hg rfl B C hb
                          have fr : Fr B w (w.freeze ⟨B, 0, none⟩ bs.length) := by
                            unfold World.freeze
                            split
                            · exact ⟨rfl, rfl, rfl, Nat.le_refl _, fun _ _ _ => rfl⟩
                            · exact ⟨rfl, rfl, rfl, by simp, fun k _ hk => by
                                simp only [Array.getElem?_modify]
                                rw [if_neg (by omega)]⟩
                          have rel' : Rel w0 ρ (eL h b none) nx (w.freeze ⟨B, 0, none⟩ bs.length) := by
                            have rd := r.drop (cJ hg)
                            refine ⟨fun c o1 e1 => ?_, rd.inj, rd.new, rd.small, rd.own, rd.old, fr.aT r hB0⟩
                            obtain ⟨B1, C1, q1, q2⟩ := rd.ok c o1 e1
                            have hne : B1 ≠ B := fun e2 => by
                              subst e2
                              by_cases hcb : c = b
                              · subst hcb; rw [cV (cJ hg)] at e1; cases e1
                              · rw [bC (cJ hg) hcb] at e1
                                exact hcb (r.inj c b o1 _ B1 C1 C e1 hg q1 hb)
                            exact ⟨B1, C1, q1, by rw [fr.block B1 q2.lt hne]; exact q2⟩
                          refine ⟨ρ, _, _, ELe.refl _, fun _ _ => rfl, Pr.set (cJ hg) _, eB rfl, rel', ?_⟩
                          rw [Nat.zero_add] at hU
                          rw [hbl] at hr
                          have hVn : a.eval y = .int .i64 (n : Int) := hV
                          generalize a.eval = ev at hU hVn
                          simp only [execOp, resolve, invoke, builtin, Sem.run_bind, Sem.run_pure, Result.andThen_ok, List.map_toArray, List.map_cons, List.map_nil, hU, hVn, hr, hbl]
                        · cases e
                      · cases e
                    · cases e
                  · cases e
                · cases e
              · cases e
            · cases e
          · cases e
        · cases e
      · cases e
    · cases e
  · cases e
end
end
end Go.Rex
namespace Go.Proofs.YtoclmkdfcafhfaaGreatDoor
end Go.Proofs.YtoclmkdfcafhfaaGreatDoor
